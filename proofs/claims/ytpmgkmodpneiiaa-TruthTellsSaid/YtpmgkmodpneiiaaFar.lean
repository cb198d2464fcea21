/- far: breadth first along rows of vertices. Conditions: those that each theorem names. -/
import Derived.Test.YtpmgkmodpneiiaaQrw
import Derived.Test.YtpmgkmodpneiiaaBfs
namespace Go.Proofs.Ytpmgkmodpneiiaa.E
open Go.RowKit Go.Sort Go.Shelf
open Go.Proofs.Ytpmgkmodpneiiaa.Ma
set_option linter.unusedVariables false
set_option linter.unusedSimpArgs false
def uC (out : List Nat) : Array Value := (out.map fun x : Nat => Value.int .u64 (x : Int)).toArray
/-- A block that holds these numbers. -/
def UB (w : World) (g : Nat) (out : List Nat) : Prop := w.heap[g]? = some (.cells (uC out) 37 (0, 0))
theorem UB.cell {w : World} {g : Nat} {out : List Nat} (h : UB w g out) {v : Nat} (hv : v < out.length) : w.cell? ⟨g, v, none⟩ = some (.int .u64 (at_ out v : Int)) :=
  cell_of_heap h (by simp [uC, at_, List.getD, hv])
theorem UB.free {w : World} {g : Nat} {out : List Nat} (h : UB w g out) {v : Nat} (hv : v < out.length) : w.frozen? ⟨g, v, none⟩ = false := free_of_heap h (by simpa [uC] using hv)
theorem UB.set {w : World} {g : Nat} {out : List Nat} (h : UB w g out) (v x : Nat) : UB (w.setCell ⟨g, v, none⟩ (.int .u64 (x : Int))) g (out.set v x) := by
  unfold UB
  rw [heap_setCell_at h]
  simp [uC, List.map_set]
theorem UB.fr {S : Nat → Prop} {w w' : World} {g : Nat} {out : List Nat} (h : UB w g out) (hf : Fr S w w') (hS : ¬ S g) : UB w' g out := hf.keep h hS
theorem UB.lt {w : World} {g : Nat} {out : List Nat} (h : UB w g out) : g < w.heap.size := lt_of_heap h
theorem UB.lies {w : World} {g : Nat} {out : List Nat} (h : UB w g out) : Lies encU 1 w (some ⟨g, 0, none⟩) (ints out) := fun j x hx => by
  unfold ints at hx
  rw [List.getElem?_map] at hx
  obtain ⟨y, hy, rfl⟩ := Option.map_eq_some_iff.1 hx
  refine ⟨g, 0, rfl, h.lt, fun i u hu => ?_⟩
  have hi := (List.getElem?_eq_some_iff.1 hu).1
  simp at hi
  subst hi
  simp at hu
  subst hu
  simp only [Nat.mul_one, Nat.zero_add, Nat.add_zero]
  exact cell_of_heap h (by simp [uC, hy])
theorem QL.one {B : Nat} {w W : World} {x : Nat} (h : W.heap[w.heap.size]? = some (.cells #[.int .i64 (x : Int)] 3 (0, 0))) (hB : B ≤ w.heap.size) : QL B W w.heap.size 0 1 [x] := by
  refine ⟨hB, _, h, by simp, by omega, by simp, fun j y hy => ?_⟩
  have hj := (List.getElem?_eq_some_iff.1 hy).1
  simp at hj
  subst hj
  simp at hy
  subst hy
  rfl
theorem fold_take {u : Nat} {r : List Int} {S : List Nat × List Nat} {j : Nat} {x : Int} (h : r[j]? = some x) : (r.take (j + 1)).foldl (visit u) S = visit u ((r.take j).foldl (visit u) S) x := by
  rw [List.take_add_one, h, List.foldl_append]
  rfl
def isFar : Value → Bool
  | .int .u64 x => x == 18446744073709551615
  | _ => false
/-- How many are far, in a block. -/
def farsIn (w : World) (g : Nat) : Nat := match w.heap[g]? with
  | some (.cells cs _ _) => cs.toList.countP isFar
  | _ => 0
def lenV : Value → Nat
  | .slice _ n _ => n
  | _ => 0
theorem farsIn_ub {w : World} {g : Nat} {out : List Nat} (h : UB w g out) : farsIn w g = out.count farN := by
  unfold farsIn
  rw [h]
  simp only [uC]
  rw [List.countP_map, List.count]
  congr 1
  funext x
  show ((x : Int) == 18446744073709551615) = (x == farN)
  by_cases e : x = farN
  · rw [e]; decide
  · have : (x : Int) ≠ 18446744073709551615 := fun q => e (by unfold farN; omega)
    rw [beq_eq_false_iff_ne.2 this, beq_eq_false_iff_ne.2 e]
theorem bfs_nil (adj : List (List Int)) (f : Nat) (out : List Nat) : bfsGo adj f (out, []) = out := by cases f <;> rfl
set_option maxRecDepth 100000 in
set_option maxHeartbeats 4000000 in
theorem far_at (B p n : Nat) (V : List Value) (adj : List (List Int)) (s : Nat) (w : World) (hG : Grid B w p V adj) (hr : Rows adj) (hn : n = adj.length) (hn2 : n ≤ 256) (hs : s < n) (hlen : ∀ r ∈ adj, r.length ≤ 100000) :
    Calls Try.prog 31 #[.slice (some ⟨p, 0, none⟩) n n, .int .i64 (s : Int)] w fun e w' => ∃ g, e = .returned (.slice (some ⟨g, 0, none⟩) n n) ∧ UB w' g (bfs adj s) ∧ w.heap.size ≤ g ∧ Below w.heap.size w w' := by
  have HF := Lib.hid (fill_at 18446744073709551615 n (by omega) (by omega) w)
  have HG := Lib.hid hG
  have HR := Lib.hid hr
  have HN := Lib.hid hn
  have HN2 := Lib.hid hn2
  have HS := Lib.hid hs
  have HLEN := Lib.hid hlen
  have j1 : (s : Int) < (n : Int) := by omega
  clear hG hr hn hn2 hs hlen
  go_enter Try.func31, Try.ntmps31
  go_wp2_with (go_at_call 47; refine HF.out.mono ?_; rintro e w1 ⟨g, rfl, hg, hg0, hb1⟩; have q0 := cell_of_heap (i := s) hg (v := .int .u64 18446744073709551615) (by simp [HS.out]); have q1 := free_of_heap (i := s) hg (by simp [HS.out]); have HG1 := Lib.hid hg; have HG0 := Lib.hid hg0; have HB1 := Lib.hid hb1; clear hg hg0 hb1)
  obtain ⟨w2, hw2, u2, f2⟩ : ∃ W2, w1.setCell ⟨g, s, none⟩ (.int .u64 0) = W2 ∧ UB W2 g ((List.replicate n farN).set s 0) ∧ Fr (fun k => k = g) w1 W2 := by
    refine ⟨_, rfl, ?_, Fr.setCell w1 ⟨g, s, none⟩ _⟩
    have : UB w1 g (List.replicate n farN) := by
      unfold UB uC
      rw [List.map_replicate]
      exact HG1.out
    exact this.set s 0
  obtain ⟨w3, hw3, gw3, b3, s3⟩ := box_new w2 (.cells #[.int .i64 (s : Int)] 3)
  have hz2 : w2.heap.size = w1.heap.size := by rw [← hw2]; simp [World.setCell]
  have HST := Lib.hid (show ∃ f out q gq oq cq, (.slice (some ⟨w1.heap.size, 0, none⟩) 1 1 : Value) = .slice (some ⟨gq, oq, none⟩) q.length cq ∧ bfsGo adj f (out, q) = bfs adj s ∧ Inv n (Leads adj) s out q ∧ out.count farN + q.length ≤ f ∧ f ≤ n ∧ UB w3 g out ∧ QL w.heap.size w3 gq oq cq q ∧ gq ≠ g ∧ Below w.heap.size w w3 by
    have hbf := (HB1.out.size : w.heap.size ≤ w1.heap.size)
    refine ⟨n, _, [s], w1.heap.size, 0, 1, rfl, by rw [HN.out]; rfl, inv_start HS.out (by have := HN2.out; unfold farN; omega), ?_, Nat.le_refl _, u2.fr (Fr.of_below b3) (fun h => h), ?_, ?_, ?_⟩
    · have hc := count_put (out := List.replicate n farN) (i := s) (x := 0) (by simpa using HS.out) (by unfold at_; simp [List.getD, HS.out]) (by decide)
      simp only [List.count_replicate_self] at hc
      simp
      omega
    · rw [← hz2]; exact QL.one gw3 (by omega)
    · have := lt_of_heap HG1.out; omega
    · exact (HB1.out.trans ((f2.below hbf (fun k hk => by rw [hk]; exact HG0.out)).mono (Nat.le_refl _))).trans (b3.mono (by omega)))
  rw [hw2, hw3]
  clear q0 q1 hw2 u2 f2 hw3 gw3 b3 s3 hz2
  go_loopw [6] (fun v wr => ∃ f out q gq oq cq, v = .slice (some ⟨gq, oq, none⟩) q.length cq ∧ bfsGo adj f (out, q) = bfs adj s ∧ Inv n (Leads adj) s out q ∧ out.count farN + q.length ≤ f ∧ f ≤ n ∧ UB wr g out ∧ QL w.heap.size wr gq oq cq q ∧ gq ≠ g ∧ Below w.heap.size w wr) (fun v wr => farsIn wr g + lenV v)
  case atStart => exact HST.out
  case round =>
    obtain ⟨f, out, q, gq, oq, cq, rfl, h1, h2, h3, h4, h5, h6, h7, h8⟩ := hrel
    have HFA := Lib.hid (farsIn_ub h5)
    have H2 := Lib.hid h2
    have H3 := Lib.hid (And.intro h3 h4)
    have H5 := Lib.hid h5
    have H6 := Lib.hid h6
    have H7 := Lib.hid h7
    have H8 := Lib.hid h8
    cases q with
    | nil =>
      rw [bfs_nil] at h1
      have H1 := Lib.hid h1
      clear h1 h2 h3 h4 h5 h6 h7 h8
      simp only [List.length_nil]
      go_wp2
      go_ret
      exact ⟨g, rfl, H1.out ▸ H5.out, HG0.out, H8.out⟩
    | cons u r =>
      obtain ⟨f1, rfl⟩ : ∃ f1, f = f1 + 1 := ⟨f - 1, by simp at h3; omega⟩
      have hu : u < n := by have := at_lt (h2.inq u (List.mem_cons_self ..)); rw [h2.len] at this; exact this
      have c0 : wr.cell? ⟨gq, oq, none⟩ = some (.int .i64 (u : Int)) := h6.cell (j := 0) rfl
      obtain ⟨row, hrow⟩ : ∃ row, adj[u]? = some row := ⟨_, List.getElem?_eq_getElem (by rw [← HN.out]; exact hu)⟩
      have hgd : adj.getD u [] = row := by rw [List.getD_eq_getElem?_getD, hrow]; rfl
      obtain ⟨v0, hv0, hown, c1w, hk2⟩ := HG.out.row_at hrow
      have c1 := keep_cell c1w h8
      obtain ⟨A0, k0, rfl, hk0, hk1⟩ := row_open encI_len hown
      have HL := Lib.hid (row_lies encI_len hown)
      have HRL := Lib.hid (HLEN.out row (List.mem_of_getElem? hrow))
      have HV := Lib.hid (show ∀ x ∈ row, x.toNat < n ∧ Leads adj u x.toNat from fun x hx => by rw [HN.out]; exact rows_get HR.out u x (hgd ▸ hx))
      have HV0 := Lib.hid (show ∀ x ∈ row, 0 ≤ x from fun x hx => (HR.out row (List.mem_of_getElem? hrow) x hx).1)
      have hB : bfsGo adj f1 (row.foldl (visit u) (out, r)) = bfs adj s := by rw [← h1, ← hgd]; rfl
      have HB := Lib.hid hB
      have HMD := Lib.hid hgd
      have hm : (u :: r).length = r.length + 1 := rfl
      rw [hm]
      have i1 : (u : Int) < (n : Int) := by omega
      have i2 : (0 : Int) < ((r.length + 1 : Nat) : Int) := by omega
      have i3 : decide ((0 : Int) < ((r.length + 1 : Nat) : Int)) = true := decide_eq_true i2
      have i4 : decide (((r.length + 1 : Nat) : Int) > (0 : Int)) = true := decide_eq_true i2
      have i5 : 0 < r.length + 1 := by omega
      clear c1w h1 h2 h3 h4 h5 h6 h7 h8 hrow hgd hv0 hown hk0 hk1 hk2 hB hm hu
      go_wp2
      obtain ⟨w4, hw4⟩ : ∃ V, wr = V := ⟨_, rfl⟩
      have HA := Lib.hid (show ∀ j, Mid n (Leads adj) s u (row.take j) ((row.take j).foldl (visit u) (out, r)).1 ((row.take j).foldl (visit u) (out, r)).2 from fun j => by
        have := H2.out.mid.fold (by have := HN2.out; unfold farN; omega) (row.take j) (fun x hx => HV.out x (List.mem_of_mem_take hx))
        simpa using this)
      have HC := Lib.hid (show ∀ j, ((row.take j).foldl (visit u) (out, r)).1.count farN + ((row.take j).foldl (visit u) (out, r)).2.length ≤ f1 from fun j => by
        have := H2.out.mid.left (by have := HN2.out; unfold farN; omega) (row.take j) (fun x hx => HV.out x (List.mem_of_mem_take hx))
        have h3 := H3.out.1
        rw [List.length_cons] at h3
        omega)
      have HB8 := Lib.hid (show Below w.heap.size w wr from H8.out)
      go_loopw [6, 31] (fun v i wi => ∃ (j : Nat) (S : List Nat × List Nat) (gq oq cq : Nat), i = .int .i64 j ∧ j ≤ row.length ∧ S = (row.take j).foldl (visit u) (out, r) ∧ v = .slice (some ⟨gq, oq, none⟩) (S.2.length + 1) cq ∧ UB wi g S.1 ∧ QL w.heap.size wi gq oq cq (u :: S.2) ∧ gq ≠ g ∧ Below w.heap.size w wi) (fun _ i _ => row.length - (intOf i).toNat)
      case atStart => exact ⟨0, (out, r), gq, oq, cq, rfl, by omega, rfl, rfl, H5.out, H6.out, H7.out, H8.out⟩
      case round =>
        obtain ⟨j, S, gi, oi, ci, rfl, hj, hS, rfl, k1, k2, k3, k4⟩ := hrel
        have HSS := Lib.hid hS
        have K1 := Lib.hid k1
        have K2 := Lib.hid k2
        have K3 := Lib.hid k3
        have K4 := Lib.hid k4
        by_cases hlt : j < row.length
        · obtain ⟨x, hx⟩ : ∃ x, row[j]? = some x := ⟨_, List.getElem?_eq_getElem hlt⟩
          obtain ⟨bx, ox, e, _, hc⟩ := lies1 (HL.out.below k4 (Nat.le_refl _)) hx
          subst e
          obtain ⟨z, rfl⟩ : ∃ z : Nat, x = (z : Int) := ⟨x.toNat, by have := HV0.out x (List.mem_of_getElem? hx); omega⟩
          have hz : z < n := by have := (HV.out _ (List.mem_of_getElem? hx)).1; simpa using this
          have hM := HA.out j
          have hC := HC.out j
          rw [← hS] at hM hC
          have hft := fold_take (u := u) (S := (out, r)) hx
          rw [← hS] at hft
          have HFT := Lib.hid hft
          have hsl : z < S.1.length := by rw [hM.len]; exact hz
          have hul : u < S.1.length := by rw [hM.len]; have := at_lt hM.me; rw [hM.len] at this; exact this
          have d0 := k1.cell hsl
          have d1 := k1.cell hul
          have f0 := k1.free hsl
          have j2 : (j : Int) < (row.length : Int) := by omega
          have j3 : (z : Int) < (n : Int) := by omega
          have j4 : (j : Int) < 100000 := by have := HRL.out; omega
          have HSL := Lib.hid hsl
          have HD := Lib.hid (hM.cnt u hM.me)
          have HCJ := Lib.hid hC
          clear hx hM hC hft hsl hul k1 k2 k3 k4 hS hz
          by_cases hf : at_ S.1 z = farN
          · rw [hf] at d0
            have e0 : ((farN : Nat) : Int) = 18446744073709551615 := rfl
            rw [e0] at d0
            have HFF := Lib.hid hf
            obtain ⟨d, hd⟩ : ∃ d, at_ S.1 u = d := ⟨_, rfl⟩
            rw [hd] at d1
            have HDD := Lib.hid hd
            have v3 : IntKind.u64.wrap ((d : Int) + 1) = ((d + 1 : Nat) : Int) := by
              have := HD.out
              have := HN2.out
              rw [IntWalk.u64_in _ ⟨by omega, by omega⟩]
              omega
            clear hf hd e0
            go_upto_region 12 with (fail)
            obtain ⟨w5, hw5, u5, f5⟩ : ∃ W5, wr.setCell ⟨g, z, none⟩ (.int .u64 ((d : Int) + 1)) = W5 ∧ UB W5 g (S.1.set z (d + 1)) ∧ Fr (fun k => k = g) wr W5 := by
              refine ⟨_, rfl, ?_, Fr.setCell wr ⟨g, z, none⟩ _⟩
              have := K1.out.set z (d + 1)
              rw [show ((d + 1 : Nat) : Int) = (d : Int) + 1 from by omega] at this
              exact this
            rw [hw5]
            obtain ⟨w6, hw6, gw6, b6, s6⟩ := box_new w5 (.cells #[.int .i64 (z : Int)] 3)
            have hs5 : w5.heap.size = wr.heap.size := by rw [← hw5]; simp [World.setCell]
            have HQ := Lib.hid (show QL w.heap.size w6 gi oi ci (u :: S.2) from (K2.out.fr f5 K3.out).fr (Fr.of_below b6) (fun h => h))
            have HC6 := Lib.hid (show w6.cell? ⟨w5.heap.size, 0, none⟩ = some (.int .i64 (z : Int)) from cell_of_heap gw6 rfl)
            have HU6 := Lib.hid (show UB w6 g (S.1.set z (d + 1)) from u5.fr (Fr.of_below b6) (fun h => h))
            have HB6 := Lib.hid (show Below w.heap.size w w6 from (K4.out.trans (f5.below K4.out.size (fun k hk => by rw [hk]; exact HG0.out))).trans (b6.mono (by rw [hs5]; exact K4.out.size)))
            have HN6 := Lib.hid (show gi < w6.heap.size ∧ g < w6.heap.size from ⟨HQ.out.lt, HU6.out.lt⟩)
            have HLQ := Lib.hid (show (u :: S.2).length ≤ 100000 by have := HCJ.out; have := H3.out.2; have := HN2.out; rw [List.length_cons]; omega)
            clear hw5 u5 f5 gw6 b6 s6 hs5
            go_wp2_with (at_builtin; refine wpList_q_append rfl _ _ rfl HQ.out HLQ.out z w5.heap.size rfl rfl HC6.out HB6.out.size ?_; intro g7 o7 c7 w7 hq7 hf7 hg7; have HQ7 := Lib.hid hq7; have HF7 := Lib.hid hf7; have HG7 := Lib.hid hg7; clear hq7 hf7 hg7)
            go_roundw
            case rel =>
              refine ⟨j + 1, (S.1.set z (d + 1), S.2 ++ [z]), g7, o7, c7, by go_num, by omega, ?_, by simp, HU6.out.fr HF7.out (fun e => K3.out e.symm), HQ7.out, ?_, ?_⟩
              · rw [HFT.out]
                unfold visit
                simp only [Int.toNat_natCast]
                rw [if_pos HFF.out, HDD.out]
              · rcases HG7.out with e | e
                · rw [e]; exact K3.out
                · have := HN6.out.2; omega
              · exact HB6.out.trans (HF7.out.below HB6.out.size (fun k hk => by rw [hk]; exact K2.out.1))
            case measure => simp [intOf]; omega
          · have e1 : ((at_ S.1 z : Int) != 18446744073709551615) = true := by
              have : (at_ S.1 z : Int) ≠ 18446744073709551615 := fun q => hf (by unfold farN; omega)
              simpa using this
            have e2 : ((at_ S.1 z : Int) == 18446744073709551615) = false := by
              have : (at_ S.1 z : Int) ≠ 18446744073709551615 := fun q => hf (by unfold farN; omega)
              simpa using this
            have HFF := Lib.hid hf
            clear hf
            go_wp2
            go_roundw
            case rel =>
              refine ⟨j + 1, S, gi, oi, ci, by go_num, by omega, ?_, rfl, K1.out, K2.out, K3.out, K4.out⟩
              rw [HFT.out]
              unfold visit
              simp only [Int.toNat_natCast]
              rw [if_neg HFF.out]
            case measure => simp [intOf]; omega
        · obtain rfl : j = row.length := by omega
          have hM := HA.out row.length
          have hC := HC.out row.length
          rw [← hS] at hM hC
          rw [List.take_length] at hS hM
          have HS2 := Lib.hid hS
          have HI := Lib.hid (hM.inv (fun v hv => by have hv' : (v : Int) ∈ adj.getD u [] := hv; rw [HMD.out] at hv'; exact hv'))
          have HCJ := Lib.hid hC
          have HCAP := Lib.hid k2.caps
          clear hM hC k1 k2 k3 k4 hS
          have b1 : S.2.length + 1 ≤ ci := HCAP.out.1
          have b2 : (1 : Int) ≤ ((S.2.length + 1 : Nat) : Int) := by omega
          have b3 : ((S.2.length + 1 : Nat) : Int) ≤ (ci : Int) := by omega
          have b4 : (1 : Int) ≤ (ci : Int) := by omega
          have HM := Lib.hid (show farsIn wr g = S.1.count farN from farsIn_ub K1.out)
          obtain ⟨So, Sq⟩ := S
          dsimp only at b1 b2 b3 HI HCJ HCAP HM HS2 ⊢
          have HBB := Lib.hid (show bfsGo adj f1 (So, Sq) = bfs adj s from by rw [HS2.out]; exact HB.out)
          have HF1 := Lib.hid (show f1 + 1 ≤ n from H3.out.2)
          have HMEAS := Lib.hid (show So.count farN + Sq.length < out.count farN + (r.length + 1) by
            have h := H2.out.mid.left (by have := HN2.out; unfold farN; omega) row HV.out
            rw [← HS2.out] at h
            dsimp only at h
            omega)
          by_cases hc1 : ci = 1
          · have hs0 : Sq = [] := List.length_eq_zero_iff.1 (by omega)
            subst hs0
            subst hc1
            clear b1 b2 b3 b4
            simp only [List.length_nil, Nat.zero_add]
            go_wp2
            go_roundw
            case rel =>
              refine ⟨f1, So, [], gi, oi, 0, by simp, HBB.out, HI.out, by have := HCJ.out; simpa using this, by have := HF1.out; omega, K1.out, ?_, K3.out, K4.out⟩
              obtain ⟨q1, cur, q2, q3, q4, q5, q6⟩ := K2.out
              exact ⟨q1, cur, q2, by simp, by omega, by omega, fun j x hx => by simp at hx⟩
            case measure =>
              rw [HM.out, HFA.out]
              have := HMEAS.out
              simpa [lenV] using this
          · have b5 : ¬ ((ci : Int) = 1) := by omega
            have b6 : ci - 1 ≠ 0 := by omega
            clear hc1
            go_wp2
            go_roundw
            case rel =>
              refine ⟨f1, So, Sq, gi, oi + 1, ci - 1, by simp, HBB.out, HI.out, HCJ.out, by have := HF1.out; omega, K1.out, K2.out.tail, K3.out, K4.out⟩
            case measure =>
              rw [HM.out, HFA.out]
              have := HMEAS.out
              simpa [lenV] using this
end Go.Proofs.Ytpmgkmodpneiiaa.E
