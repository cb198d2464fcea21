/- labels: the least vertex of each one's component. Conditions: those that each theorem names. -/
import Derived.Test.YtpmgkmodpneiiaaFar
import Derived.Test.YtpmgkmodpneiiaaRnk
namespace Go.Proofs.Ytpmgkmodpneiiaa.E
open Go.RowKit Go.Sort Go.Shelf
open Go.Proofs.Ytpmgkmodpneiiaa.Ma
set_option linter.unusedVariables false
set_option linter.unusedSimpArgs false
theorem grt_ub {w : World} {g n : Nat} {out : List Nat} (h : UB w g out) (hl : out.length = n) (hn : n ≤ 256) (hx : ∀ v, at_ out v ≠ farN → at_ out v < n) :
    Calls Try.prog 32 #[.slice (some ⟨g, 0, none⟩) n n] w fun e w' => e = .returned (.int .i64 (grt out : Nat)) ∧ w = w' := by
  have := greatest_at (some ⟨g, 0, none⟩) n out w h.lies (by omega) (fun x hx2 => by
    obtain ⟨v, hv, e⟩ := mem_at hx2
    by_cases c : x = farN
    · exact .inl c
    · have := hx v (by rw [e]; exact c)
      exact .inr (by omega))
  rw [hl] at this
  exact this
theorem fill_ub (x : Nat) (n : Nat) (h1 : 1 ≤ n) (hn : n ≤ 256) (w : World) :
    Calls Try.prog 47 #[.int .i64 (n : Int), .int .u64 (x : Int)] w fun e w' => ∃ g, e = .returned (.slice (some ⟨g, 0, none⟩) n n) ∧ UB w' g (List.replicate n x) ∧ w.heap.size ≤ g ∧ Below w.heap.size w w' :=
  (fill_at (x : Int) n h1 hn w).mono fun e w' ⟨g, he, hg, h0, hb⟩ => ⟨g, he, by unfold UB uC; rw [List.map_replicate]; exact hg, h0, hb⟩
theorem dst_bfs {adj : List (List Int)} {n k : Nat} (hr : Rows adj) (hn : n = adj.length) (hn2 : n ≤ 256) (hk : k < n) : Dst n (Leads adj) k (bfs adj k) := by
  subst hn
  exact bfs_dst hr (by unfold farN; omega) hk
theorem labTo_len (adj : List (List Int)) : ∀ k, (labTo adj k).1.length = adj.length
  | 0 => by simp [labTo]
  | k + 1 => by
    rw [labTo_succ]
    unfold labStep
    split
    · exact labTo_len adj k
    · exact (markTo_len _ _ _ _).trans (labTo_len adj k)
theorem grt_lt {n s : Nat} {E : Nat → Nat → Prop} {out : List Nat} (h : Dst n E s out) (hn : 1 ≤ n) : grt out < n := by
  rcases (grt_max out).2 with h0 | ⟨h1, h2⟩
  · omega
  · obtain ⟨v, _, e⟩ := mem_at h1
    have := h.lt v (by rw [e]; exact h2)
    omega
theorem labTo_top {adj : List (List Int)} {n : Nat} (hr : Rows adj) (hn : n = adj.length) (hn1 : 1 ≤ n) (hn2 : n ≤ 256) : ∀ k, k ≤ n → (labTo adj k).2 < n
  | 0, _ => by show 0 < n; omega
  | k + 1, hk => by
    have ih := labTo_top hr hn hn1 hn2 k (by omega)
    rw [labTo_succ]
    unfold labStep
    split
    · exact ih
    · exact Nat.max_lt.2 ⟨ih, grt_lt (dst_bfs hr hn hn2 hk) hn1⟩
theorem labTo_skip {adj : List (List Int)} {k : Nat} (h : at_ (labTo adj k).1 k ≠ farN) : labTo adj (k + 1) = labTo adj k := by
  rw [labTo_succ]; unfold labStep; rw [if_pos h]
theorem labTo_do {adj : List (List Int)} {k : Nat} (h : at_ (labTo adj k).1 k = farN) : labTo adj (k + 1) = (mark k (bfs adj k) (labTo adj k).1, Nat.max (labTo adj k).2 (grt (bfs adj k))) := by
  rw [labTo_succ]; unfold labStep; rw [if_neg (fun q => q h)]
set_option maxRecDepth 100000 in
set_option maxHeartbeats 4000000 in
theorem labels_at (B q n : Nat) (x : Value) (U : List Value) (adj : List (List Int)) (w : World) (hG : Grid B w q U adj) (hr : Rows adj) (hn : n = adj.length) (hn1 : 1 ≤ n) (hn2 : n ≤ 256) (hlen : ∀ r ∈ adj, r.length ≤ 100000) (P0 c0 : Nat) (hx : x = .slice (some ⟨P0, 0, none⟩) n c0) :
    Calls Try.prog 34 #[.agg #[.int .i64 (n : Int), x, .slice (some ⟨q, 0, none⟩) n n]] w fun e w' => ∃ g, e = .returned (.tuple #[.slice (some ⟨g, 0, none⟩) n n, .int .i64 ((labs adj).2 : Nat)]) ∧ UB w' g (labs adj).1 ∧ w.heap.size ≤ g ∧ Below w.heap.size w w' := by
  subst hx
  have HG := Lib.hid hG
  have HR := Lib.hid hr
  have HN := Lib.hid hn
  have HN1 := Lib.hid hn1
  have HN2 := Lib.hid hn2
  have HLEN := Lib.hid hlen
  obtain ⟨W, hW, gW, hbl, hsz⟩ := box_new w (.cells #[.int .i64 (n : Int), .slice (some ⟨P0, 0, none⟩) n c0, .slice (some ⟨q, 0, none⟩) n n] 66 (0, 0))
  have HF := Lib.hid (fill_ub farN n hn1 hn2 W)
  have b0 : W.cell? ⟨w.heap.size, 0, none⟩ = some (.int .i64 (n : Int)) := cell_of_heap (i := 0) gW rfl
  have b2 : W.cell? ⟨w.heap.size, 2, none⟩ = some (.slice (some ⟨q, 0, none⟩) n n) := cell_of_heap (i := 2) gW rfl
  have HBW := Lib.hid hbl
  have HGQ := Lib.hid (hG.below hbl)
  have HLB := Lib.hid (lt_of_heap gW)
  clear hG hr hn hn1 hn2 hlen gW hbl hsz
  go_enter Try.func34, Try.ntmps34
  go_wp2_with (go_at_call 47; refine HF.out.mono ?_; rintro e w1 ⟨g, rfl, hg, hg0, hb1⟩; have HG1 := Lib.hid hg; have HG0 := Lib.hid hg0; have HB1 := Lib.hid hb1; have b0c := keep_cell b0 hb1; clear hg hg0 hb1)
  go_loopw [5, 15] (fun m v wr => ∃ k : Nat, v = .int .i64 (k : Int) ∧ k ≤ n ∧ m = .int .i64 ((labTo adj k).2 : Nat) ∧ UB wr g (labTo adj k).1 ∧ Below W.heap.size W wr) (fun _ v _ => n - (intOf v).toNat)
  case atStart => exact ⟨0, rfl, by omega, rfl, by have := HG1.out; rw [HN.out] at this; exact this, HB1.out⟩
  case round =>
    obtain ⟨k, rfl, hk, rfl, hu, hb⟩ := hrel
    have HU := Lib.hid hu
    have HB := Lib.hid hb
    by_cases hlt : k < n
    · have hll : (labTo adj k).1.length = n := by rw [labTo_len, ← HN.out]
      have c0 := hu.cell (v := k) (by omega)
      have i1 : (k : Int) < (n : Int) := by omega
      have i2 : (k : Int) < 1000 := by have := HN2.out; omega
      have HLL := Lib.hid hll
      have b2c := keep_cell b2 hb
      have HK := Lib.hid hlt
      clear hu hb hk hll
      by_cases hf : at_ (labTo adj k).1 k = farN
      · rw [hf] at c0
        have e0 : ((farN : Nat) : Int) = 18446744073709551615 := rfl
        rw [e0] at c0
        have HFF := Lib.hid hf
        have HFA := Lib.hid (far_at B q n U adj k wr (HGQ.out.fr (Fr.of_below HB.out) (fun _ _ h => h)) HR.out HN.out HN2.out hlt HLEN.out)
        have HDS := Lib.hid (dst_bfs HR.out HN.out HN2.out hlt)
        clear hf e0 hlt
        go_upto_region 7 with (go_at_call 31; refine HFA.out.mono ?_; rintro e w2 ⟨g2, rfl, hu2, hg2, hb2⟩; have HU2 := Lib.hid hu2; have HG2 := Lib.hid hg2; have HB2 := Lib.hid hb2; clear hu2 hg2 hb2)
        have HB3 := Lib.hid (show Below W.heap.size W w2 from HB.out.trans (HB2.out.mono HB.out.size))
        have HU3 := Lib.hid (show UB w2 g (labTo adj k).1 from HU.out.fr (Fr.of_below HB2.out) (fun h => h))
        have HNE := Lib.hid (show g ≠ g2 by have := HU.out.lt; have := HG2.out; omega)
        have HL2 := Lib.hid HDS.out.len
        go_wp2
        go_loopw [29] (fun i wi => ∃ j : Nat, i = .int .i64 (j : Int) ∧ j ≤ n ∧ UB wi g (markTo k (bfs adj k) (labTo adj k).1 j) ∧ UB wi g2 (bfs adj k) ∧ Below W.heap.size W wi) (fun i _ => n - (intOf i).toNat)
        case atStart => exact ⟨0, rfl, by omega, HU3.out, HU2.out, HB3.out⟩
        case round =>
          obtain ⟨j, rfl, hj, k1, k2, k3⟩ := hrel
          have K1 := Lib.hid k1
          have K2 := Lib.hid k2
          have K3 := Lib.hid k3
          by_cases hlj : j < n
          · have d0 := k2.cell (v := j) (by rw [HL2.out]; exact hlj)
            have d1 := k1.cell (v := j) (by rw [markTo_len, HLL.out]; exact hlj)
            have d2 := k1.free (v := j) (by rw [markTo_len, HLL.out]; exact hlj)
            have j1 : (j : Int) < (n : Int) := by omega
            have j2 : (j : Int) < 1000 := by have := HN2.out; omega
            have v3 : IntKind.u64.wrap (k : Int) = (k : Int) := IntWalk.u64_in _ ⟨by omega, by omega⟩
            have HMS := Lib.hid (markTo_succ k (bfs adj k) (labTo adj k).1 j)
            have HJ := Lib.hid hlj
            clear k1 k2 k3 hj hlj
            by_cases hf : at_ (bfs adj k) j = farN
            · rw [hf] at d0
              have e0 : ((farN : Nat) : Int) = 18446744073709551615 := rfl
              rw [e0] at d0
              have HF2 := Lib.hid hf
              clear hf e0
              go_wp2
              go_roundw
              case rel => exact ⟨j + 1, by go_num, by have := HJ.out; omega, by rw [HMS.out, if_neg (fun q => q HF2.out)]; exact K1.out, K2.out, K3.out⟩
              case measure => have := HJ.out; simp [intOf]; omega
            · have e1 : ((at_ (bfs adj k) j : Int) != 18446744073709551615) = true := by
                have : (at_ (bfs adj k) j : Int) ≠ 18446744073709551615 := fun q => hf (by unfold farN; omega)
                simpa using this
              have HF2 := Lib.hid hf
              clear hf
              go_wp2
              go_roundw
              case rel => exact ⟨j + 1, by go_num, by have := HJ.out; omega, by rw [HMS.out, if_pos HF2.out]; exact K1.out.set j k, K2.out.fr (Fr.setCell wr ⟨g, j, none⟩ _) (fun e => HNE.out e.symm), K3.out.trans ((Fr.setCell wr ⟨g, j, none⟩ _).below K3.out.size (fun i e => by have e' : i = g := e; rw [e']; exact HG0.out))⟩
              case measure => have := HJ.out; simp [intOf]; omega
          · obtain rfl : j = n := by omega
            have HGR := Lib.hid (grt_ub k2 HL2.out HN2.out HDS.out.lt)
            have HTOP := Lib.hid (labTo_top HR.out HN.out HN1.out HN2.out k (Nat.le_of_lt HK.out))
            have HTG := Lib.hid (grt_lt HDS.out HN1.out)
            have HDO := Lib.hid (labTo_do HFF.out)
            have HMK := Lib.hid (show mark k (bfs adj k) (labTo adj k).1 = markTo k (bfs adj k) (labTo adj k).1 j by unfold mark markTo; rw [HL2.out])
            clear k1 k2 k3
            go_wp2_with (go_at_call 32; refine HGR.out.mono ?_; rintro e w3 ⟨rfl, rfl⟩)
            go_roundw
            case rel =>
              refine ⟨k + 1, by go_num, HK.out, ?_, by rw [HDO.out]; dsimp only; rw [HMK.out]; exact K1.out, K3.out⟩
              rw [HDO.out]
              dsimp only
              congr 1
              simp only [Nat.max_def, Int.max_def]
              split <;> split <;> omega
            case measure => have := HK.out; simp [intOf]; omega
      · have e1 : ((at_ (labTo adj k).1 k : Int) != 18446744073709551615) = true := by
          have : (at_ (labTo adj k).1 k : Int) ≠ 18446744073709551615 := fun q => hf (by unfold farN; omega)
          simpa using this
        have HSK := Lib.hid (labTo_skip hf)
        clear hf hlt
        go_wp2
        go_roundw
        case rel => exact ⟨k + 1, by go_num, HK.out, by rw [HSK.out], by rw [HSK.out]; exact HU.out, HB.out⟩
        case measure => have := HK.out; simp [intOf]; omega
    · obtain rfl : k = n := by omega
      have HLS := Lib.hid (show labTo adj k = labs adj by unfold labs; rw [← HN.out])
      clear hu hb hk hlt
      go_wp2
      exact bodyPost_ret (v := .tuple #[.slice (some ⟨g, 0, none⟩) k k, .int .i64 ((labTo adj k).2 : Nat)]) (by simp [results, Try.results34, go_sem]) rfl ⟨g, by rw [HLS.out], by rw [← HLS.out]; exact HU.out, Nat.le_trans HBW.out.size HG0.out, HBW.out.trans (HB.out.mono HBW.out.size)⟩
end Go.Proofs.Ytpmgkmodpneiiaa.E
