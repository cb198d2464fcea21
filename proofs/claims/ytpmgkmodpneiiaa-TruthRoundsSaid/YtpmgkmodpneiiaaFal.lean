/- TruthFar: the law walked. -/
import Derived.Test.YtpmgkmodpneiiaaMad
namespace Go.Proofs.Ytpmgkmodpneiiaa.E
open Go.RowKit Go.Sort Go.Shelf
open Go.Proofs.Ytpmgkmodpneiiaa.Ma
set_option linter.unusedVariables false
set_option linter.unusedSimpArgs false
theorem info4 : (Try.prog.info? 4).map (fun i => (i.zero, i.size, i.bytes)) = some (some (.bool false), 1, 1) := by kernel_rfl
def bC (bs : List Bool) : Array Value := (bs.map Value.bool).toArray
/-- A block that holds these truths. -/
def BB (w : World) (g : Nat) (bs : List Bool) : Prop := w.heap[g]? = some (.cells (bC bs) 4 (0, 0))
theorem BB.cell {w : World} {g : Nat} {bs : List Bool} (h : BB w g bs) {v : Nat} (hv : v < bs.length) : w.cell? ⟨g, v, none⟩ = some (.bool (bs.getD v false)) :=
  cell_of_heap h (by simp [bC, List.getD, hv])
theorem BB.free {w : World} {g : Nat} {bs : List Bool} (h : BB w g bs) {v : Nat} (hv : v < bs.length) : w.frozen? ⟨g, v, none⟩ = false := free_of_heap h (by simpa [bC] using hv)
theorem BB.set {w : World} {g : Nat} {bs : List Bool} (h : BB w g bs) (v : Nat) (x : Bool) : BB (w.setCell ⟨g, v, none⟩ (.bool x)) g (bs.set v x) := by
  unfold BB
  rw [heap_setCell_at h]
  simp [bC, List.map_set]
theorem BB.fr {S : Nat → Prop} {w w' : World} {g : Nat} {bs : List Bool} (h : BB w g bs) (hf : Fr S w w') (hS : ¬ S g) : BB w' g bs := hf.keep h hS
theorem BB.lt {w : World} {g : Nat} {bs : List Bool} (h : BB w g bs) : g < w.heap.size := lt_of_heap h
theorem make_b (N : Nat) (h : N ≤ 1000) (w : World) : (Instr.makeSlice 49 (.int .i64 (N : Int)) (.int .i64 (N : Int))).run Try.prog w = .ok (.slice (some ⟨w.heap.size, 0, none⟩) N N) (w.alloc (.cells (bC (List.replicate N false)) 4 (0, 0))) := by
  obtain ⟨i0, hi, hz0, hz1, hz2⟩ := info_parts info4
  have hr := run_makeSlice (P := Try.prog) w 49 4 i0 _ Try.underlying49 hi hz0 .i64 .i64 (N : Int) (N : Int) (by omega) (by omega) (by rw [hz1]; omega) (by rw [hz2]; omega) (by omega)
  rw [hr]
  have e : madeCells (Value.bool false).cells ((N : Int).toNat * i0.size) = bC (List.replicate N false) := by
    apply Array.ext'
    rw [show (Value.bool false).cells = #[Value.bool false] from rfl, toList_madeCells_one, hz1]
    simp [bC]
  rw [e]
  simp
def ledStep (out : List Nat) (bs : List Bool) (e : Ed) : List Bool := bs.set e.2.toNat (bs.getD e.2.toNat false || (at_ out e.1.toNat != farN && at_ out e.2.toNat == at_ out e.1.toNat + 1))
def ledTo (out : List Nat) (n : Nat) (L : List Ed) : List Bool := L.foldl (ledStep out) (List.replicate n false)
theorem ledTo_len (out : List Nat) (n : Nat) (L : List Ed) : (ledTo out n L).length = n := by
  unfold ledTo
  exact fold_inv0 (fun _ o => List.length o = n) L (List.replicate n false) (by simp) (fun _ o e h _ => by unfold ledStep; rw [List.length_set]; exact h)
theorem ledTo_take {out : List Nat} {n k : Nat} {L : List Ed} {e : Ed} (h : L[k]? = some e) : ledTo out n (L.take (k + 1)) = ledStep out (ledTo out n (L.take k)) e := by
  unfold ledTo
  rw [List.take_add_one, h, List.foldl_append]
  rfl
theorem ledTo_hit {out : List Nat} {n : Nat} {L : List Ed} (hL : Edges n L) {u v : Nat} (he : LeadsE L u v) (hu : at_ out u ≠ farN) (hv : at_ out v = at_ out u + 1) : (ledTo out n L).getD v false = true := by
  have := fold_inv0 (f := ledStep out) (fun done o => o.length = n ∧ (LeadsE done u v → o.getD v false = true)) L (List.replicate n false) ⟨by simp, fun h => absurd h (by simp [LeadsE])⟩ (fun done o e h hx => by
    obtain ⟨h1, h2⟩ := h
    have hi := hL e hx
    refine ⟨by unfold ledStep; rw [List.length_set]; exact h1, fun hl => ?_⟩
    unfold ledStep
    have hget : ∀ (i : Nat) (x : Bool), i < o.length → (o.set i x).getD v false = if v = i then x else o.getD v false := fun i x hi => by
      by_cases e : v = i
      · subst e; simp [List.getD, hi]
      · rw [if_neg e, List.getD_eq_getElem?_getD, List.getElem?_set_ne (fun q => e q.symm), ← List.getD_eq_getElem?_getD]
    rw [hget _ _ (by rw [h1]; omega)]
    rcases List.mem_append.1 hl with hl | hl
    · by_cases ev : v = e.2.toNat
      · rw [if_pos ev, ← ev, h2 hl]; rfl
      · rw [if_neg ev, h2 hl]
    · have he := List.mem_singleton.1 hl
      subst he
      simp [hu, hv])
  exact this.2 he
/-- What a search comes to. -/
theorem job_one {n : Nat} {L : List Ed} (h : Good n L) {s : Nat} (hs : s < n) : Dst n (LeadsE L) s (job n L 1 (s : Int)).1 := by
  have e : (job n L 1 (s : Int)).1 = bfs (ofOut n L) s := by unfold job; rw [if_pos rfl, Int.toNat_natCast]
  rw [e]
  have := dst_bfs (rows_out h.edges) (ofOut_row h.edges).1.symm (by have := h.n2; omega) hs
  rw [leads_out h.edges] at this
  exact this
theorem chk_one {n s : Nat} (h1 : 1 ≤ n) (h2 : n ≤ 60) (hs : s < n) : chk 1 (s : Int) 0 (n : Int) = 0 := by
  unfold chk okN argOk
  rw [if_pos]
  simp
  omega
attribute [local irreducible] wpStill
set_option maxRecDepth 100000 in
set_option maxHeartbeats 4000000 in
theorem farlaw_at (A : Option Addr) (c : Nat) (N s0 : Int) (P : List Ed) (w : World) (hN : 0 ≤ N ∧ N ≤ 255) (hs0 : 0 ≤ s0 ∧ s0 ≤ 255) (hL : Lies enc8 2 w A P) (hb8 : ∀ p ∈ P, (0 ≤ p.1 ∧ p.1 ≤ 255) ∧ 0 ≤ p.2 ∧ p.2 ≤ 255) (hlen : P.length ≤ 300) :
    Calls Try.prog 5 #[.agg #[.int .u8 N, .slice A P.length c], .int .u8 s0] w fun e w' => e = .returned (.bool true) ∧ Below w.heap.size w w' := by
  obtain ⟨W, hW, gW, hbl, hsz⟩ := box_new w (.cells #[.int .u8 N, .slice A P.length c] 41 (0, 0))
  have b0 : W.cell? ⟨w.heap.size, 0, none⟩ = some (.int .u8 N) := cell_of_heap (i := 0) gW rfl
  have b1 : W.cell? ⟨w.heap.size, 1, none⟩ = some (.slice A P.length c) := cell_of_heap (i := 1) gW rfl
  have HB := Lib.hid hbl
  have HMA := made_at A c N P W hN (hL.below hbl (Nat.le_refl _)) hb8 hlen
  have hg := made_good (N := N) hlen
  have hm := madeN_in (N := N)
  obtain ⟨n, hn⟩ : ∃ n : Nat, madeN N = (n : Int) := ⟨(madeN N).toNat, by omega⟩
  obtain ⟨L, hLL⟩ : ∃ L, madeL N P = L := ⟨_, rfl⟩
  rw [hn, hLL] at HMA
  rw [hn, hLL, Int.toNat_natCast] at hg
  have HM := Lib.hid HMA
  have HG := Lib.hid hg
  have hn1 := hg.n1
  have hn2 := hg.n2
  obtain ⟨s, hs⟩ : ∃ s : Nat, s0 % (n : Int) = (s : Int) := ⟨(s0 % (n : Int)).toNat, by have := Int.emod_nonneg s0 (show (n : Int) ≠ 0 by omega); omega⟩
  have hsn : s < n := by have := Int.emod_lt_of_pos s0 (show 0 < (n : Int) by omega); omega
  have x0 : IntKind.i64.wrap s0 = s0 := wrap8 hs0
  have x1 : s0.tmod (n : Int) = (s : Int) := by rw [← hs]; exact Int.tmod_eq_emod_of_nonneg hs0.1
  have x2 : ¬ ((n : Int) = 0) := by omega
  have x3 : ¬ (n = 0) := by omega
  have HOF := Lib.hid (fun (A' : Option Addr) (c' : Nat) (V : World) (h : Lies enc2 2 V A' L) => ofr_ok A' c' n L 1 (s : Int) 0 0 V h (by rw [hg.ref]; exact chk_one hn1 hn2 hsn))
  have HD := Lib.hid (job_one hg hsn)
  have HR := Lib.hid (fun V => round_at V)
  have HSN := Lib.hid hsn
  have HLEN := Lib.hid hlen
  have x4 : ¬ ((300 : Int) < (P.length : Int)) := by omega
  have x5 : ¬ ((P.length : Int) > 300) := by omega
  have x6 : decide ((P.length : Int) > 300) = false := decide_eq_false x5
  have hmk := make_b n (by omega)
  obtain ⟨out, hout⟩ : ∃ o, (job n L 1 (s : Int)).1 = o := ⟨_, rfl⟩
  rw [hout] at HOF HD
  have HN12 := Lib.hid (And.intro hn1 hn2)
  have j1 : (s : Int) < (n : Int) := by omega
  clear hb8 hlen hL hbl hsz gW hn hLL hg hm HMA hs hsn hN hs0 hout hn1 hn2
  go_enter Try.func5, Try.ntmps5
  go_upto_region 6 with (first
    | (have _ := HL2; go_at_call 12; refine (HOF.out _ _ _ HL2.out).mono ?_; rintro e w3 ⟨g, rfl, hu, hg0, hb3⟩; have HU := Lib.hid hu; have HG0 := Lib.hid hg0; have HB3 := Lib.hid hb3; clear hu hg0 hb3)
    | (go_at_call 16; refine HM.out.mono ?_; rintro e w2 ⟨A', c', rfl, hl2, hb2⟩; have HL2 := Lib.hid hl2; have HB2 := Lib.hid hb2; clear hl2 hb2))
  have HOL := Lib.hid HD.out.len
  have q0 := HU.out.cell (v := s) (by rw [HOL.out]; exact HSN.out)
  rw [HD.out.src] at q0
  have hz : ((0 : Nat) : Int) = 0 := rfl
  rw [hz] at q0
  have HL3 := Lib.hid (HL2.out.below HB3.out (Nat.le_refl _))
  have HB23 := Lib.hid (show Below W.heap.size W w3 from HB2.out.trans (HB3.out.mono HB2.out.size))
  have HGW := Lib.hid (show W.heap.size ≤ g from Nat.le_trans HB2.out.size HG0.out)
  clear hz
  go_upto_region 9 with (fail)
  obtain ⟨w4, hw4, gw4, b4, s4⟩ := box_new w3 (.cells (bC (List.replicate n false)) 4 (0, 0))
  rw [hw4]
  obtain ⟨gl, hgl⟩ : ∃ gl, w3.heap.size = gl := ⟨_, rfl⟩
  rw [hgl] at gw4 ⊢
  have HST := Lib.hid (show UB w4 g out ∧ BB w4 gl (List.replicate n false) ∧ Lies enc2 2 w4 A' L ∧ Below W.heap.size W w4 from
    ⟨HU.out.fr (Fr.of_below b4) (fun h => h), gw4, HL3.out.below b4 (Nat.le_refl _), HB23.out.trans (b4.mono HB23.out.size)⟩)
  have HGL := Lib.hid (show W.heap.size ≤ gl from hgl ▸ HB23.out.size)
  have HNE := Lib.hid (show g ≠ gl by have := HU.out.lt; omega)
  have HLA := Lib.hid (show ∀ b o, A' = some ⟨b, o, none⟩ → 0 < L.length → ¬ b = gl from fun b o e h0 hb => by
    obtain ⟨x, hx⟩ : ∃ x, L[0]? = some x := ⟨_, List.getElem?_eq_getElem h0⟩
    obtain ⟨g', o', e', hlt, _⟩ := HL3.out 0 x hx
    rw [e] at e'
    cases e'
    omega)
  clear hw4 gw4 b4 s4 hgl q0 hmk
  go_wp2
  go_loopw [11] (fun i wi => ∃ k : Nat, i = .int .i64 (k : Int) ∧ k ≤ L.length ∧ UB wi g out ∧ BB wi gl (ledTo out n (L.take k)) ∧ Lies enc2 2 wi A' L ∧ Below W.heap.size W wi) (fun i _ => L.length - (intOf i).toNat)
  case atStart => exact ⟨0, rfl, by omega, HST.out⟩
  case round =>
    obtain ⟨k, rfl, hk, k1, k2, k3, k4⟩ := hrel
    have K1 := Lib.hid k1
    have K2 := Lib.hid k2
    have K3 := Lib.hid k3
    have K4 := Lib.hid k4
    by_cases hlt : k < L.length
    · obtain ⟨⟨e1, e2⟩, hx⟩ : ∃ x, L[k]? = some x := ⟨_, List.getElem?_eq_getElem hlt⟩
      obtain ⟨bx, ox, rfl, _, c0, c1⟩ := lies2 k3 hx
      have hin := HG.out.edges _ (List.mem_of_getElem? hx)
      dsimp only at hin
      obtain ⟨a, rfl⟩ : ∃ a : Nat, e1 = (a : Int) := ⟨e1.toNat, by omega⟩
      obtain ⟨z, rfl⟩ : ∃ a : Nat, e2 = (a : Int) := ⟨e2.toNat, by omega⟩
      have HAZ := Lib.hid (show a < n ∧ z < n by omega)
      have d0 := k1.cell (v := a) (by rw [HOL.out]; omega)
      have d1 := k1.cell (v := z) (by rw [HOL.out]; omega)
      obtain ⟨bb, hbb⟩ : ∃ b, (ledTo out n (L.take k)).getD z false = b := ⟨_, rfl⟩
      have d2 := k2.cell (v := z) (by rw [ledTo_len]; omega)
      have f2 := k2.free (v := z) (by rw [ledTo_len]; omega)
      rw [hbb] at d2
      have hedge := HD.out.edge a z (List.mem_of_getElem? hx)
      have HTK := Lib.hid (ledTo_take (out := out) (n := n) hx)
      obtain ⟨u, hu⟩ : ∃ u, at_ out a = u := ⟨_, rfl⟩
      obtain ⟨v, hv⟩ : ∃ u, at_ out z = u := ⟨_, rfl⟩
      have hult : u ≠ farN → u < n := fun h => by rw [← hu] at h ⊢; exact HD.out.lt a h
      have hvlt : v ≠ farN → v < n := fun h => by rw [← hv] at h ⊢; exact HD.out.lt z h
      rw [hu] at d0 hedge
      rw [hv] at d1 hedge
      have HUV := Lib.hid (And.intro hu (And.intro hv hbb))
      have i1 : (k : Int) < (L.length : Int) := by omega
      have i2 : (k : Int) < 1000 := by have := HG.out.len; omega
      have i3 : (a : Int) < (n : Int) := by omega
      have i4 : (z : Int) < (n : Int) := by omega
      have HK := Lib.hid hlt
      have HNB := Lib.hid (HLA.out _ _ rfl (by omega))
      have HFIN := Lib.hid (show ∀ (wd : World) (x : Bool), UB wd g out → BB wd gl (ledTo out n (L.take k)) → Lies enc2 2 wd (some ⟨bx, ox, none⟩) L → Below W.heap.size W wd → x = (bb || (u != farN && v == u + 1)) → UB (wd.setCell ⟨gl, z, none⟩ (.bool x)) g out ∧ BB (wd.setCell ⟨gl, z, none⟩ (.bool x)) gl (ledTo out n (L.take (k + 1))) ∧ Lies enc2 2 (wd.setCell ⟨gl, z, none⟩ (.bool x)) (some ⟨bx, ox, none⟩) L ∧ Below W.heap.size W (wd.setCell ⟨gl, z, none⟩ (.bool x)) from fun wd x h1 h2 h3 h4 hxe => by
        have hf := Fr.setCell wd ⟨gl, z, none⟩ (.bool x)
        refine ⟨h1.fr hf (fun e => HNE.out e), ?_, h3.fr hf (fun b o e => by cases e; exact HNB.out), h4.trans (hf.below h4.size (fun i e => by have e' : i = gl := e; rw [e']; exact HGL.out))⟩
        rw [HTK.out]
        unfold ledStep
        dsimp only
        rw [Int.toNat_natCast, Int.toNat_natCast, HUV.out.1, HUV.out.2.1, HUV.out.2.2, ← hxe]
        exact h2.set z x)
      clear hx hin hbb hu hv hk hlt k1 k2 k3 k4
      have ef : ((farN : Nat) : Int) = 18446744073709551615 := rfl
      go_wp2
      go_quiet (fail)
      obtain ⟨wq, hwq⟩ : ∃ V, wr.drewN nq = V := ⟨_, rfl⟩
      have M1 := Lib.hid (show UB wq g out by rw [← hwq]; exact K1.out)
      have M2 := Lib.hid (show BB wq gl (ledTo out n (L.take k)) by rw [← hwq]; exact K2.out)
      have M3 := Lib.hid (show Lies enc2 2 wq (some ⟨bx, ox, none⟩) L by rw [← hwq]; exact K3.out)
      have M4 := Lib.hid (show Below W.heap.size W wq by rw [← hwq]; exact K4.out.trans ((below_drewNg wr _).mono K4.out.size))
      have r0 : wq.cell? ⟨bx, ox + k * 2, none⟩ = some (.int .i64 (a : Int)) := by rw [← hwq]; exact c0
      have r1 : wq.cell? ⟨bx, ox + k * 2 + 1, none⟩ = some (.int .i64 (z : Int)) := by rw [← hwq]; exact c1
      have r2 : wq.cell? ⟨gl, z, none⟩ = some (.bool bb) := by rw [← hwq]; exact d2
      have r3 : wq.frozen? ⟨gl, z, none⟩ = false := by rw [← hwq]; exact f2
      rw [hwq]
      clear hwq c0 c1 d0 d1 d2 f2
      have hb15 : ∀ x : Bool, x = (bb || (u != farN && v == u + 1)) → True := fun _ _ => trivial
      by_cases hf : u = farN
      · have t1 : ((u : Int) != 18446744073709551615) = false := by rw [hf]; decide
        have HX := Lib.hid (show bb = (bb || (u != farN && v == u + 1)) by rw [hf]; simp)
        clear hf hedge hult hvlt hb15
        go_wp2
        refine region_tail 24 (by kernel_rfl) (by kernel_rfl) fun wd hwd => ?_
        simp only [List.take_succ_cons, List.take_zero, List.drop_succ_cons, List.drop_zero]
        have S1 := Lib.hid (show UB wd g out by rw [hwd]; exact M1.out)
        have S2 := Lib.hid (show BB wd gl (ledTo out n (L.take k)) by rw [hwd]; exact M2.out)
        have S3 := Lib.hid (show Lies enc2 2 wd (some ⟨bx, ox, none⟩) L by rw [hwd]; exact M3.out)
        have S4 := Lib.hid (show Below W.heap.size W wd by rw [hwd]; exact M4.out.drew)
        have r0 : wd.cell? ⟨bx, ox + k * 2, none⟩ = some (.int .i64 (a : Int)) := by rw [hwd]; exact r0
        have r1 : wd.cell? ⟨bx, ox + k * 2 + 1, none⟩ = some (.int .i64 (z : Int)) := by rw [hwd]; exact r1
        have r2 : wd.cell? ⟨gl, z, none⟩ = some (.bool bb) := by rw [hwd]; exact r2
        have r3 : wd.frozen? ⟨gl, z, none⟩ = false := by rw [hwd]; exact r3
        clear hwd
        cases bb
        all_goals
          repeat still_step
          refine wpStill_nil ?_
          go_wp2
          go_roundw
          case rel => exact ⟨k + 1, by go_num, HK.out, HFIN.out wd _ S1.out S2.out S3.out S4.out HX.out⟩
          case measure => have := HK.out; simp [intOf]; omega
      · obtain ⟨hvf, hvle⟩ := hedge hf
        have t1 : ((u : Int) != 18446744073709551615) = true := by
          have : (u : Int) ≠ 18446744073709551615 := fun q => hf (by unfold farN; omega)
          simpa using this
        have t2 : ((v : Int) == 18446744073709551615) = false := by
          have : (v : Int) ≠ 18446744073709551615 := fun q => hvf (by unfold farN; omega)
          simpa using this
        have hub := hult hf
        have hn60 := HN12.out.2
        have t3 : IntKind.u64.wrap ((u : Int) + 1) = ((u + 1 : Nat) : Int) := by rw [IntWalk.u64_in _ ⟨by omega, by omega⟩]; omega
        have t4 : ¬ (((u + 1 : Nat) : Int) < (v : Int)) := by omega
        have t5 : decide (((u + 1 : Nat) : Int) < (v : Int)) = false := decide_eq_false t4
        obtain ⟨y, hy⟩ : ∃ y, (v == u + 1) = y := ⟨_, rfl⟩
        have t6 : ((v : Int) == ((u + 1 : Nat) : Int)) = y := by
          rw [← hy]
          by_cases e : v = u + 1
          · rw [e]; simp
          · have : (v : Int) ≠ ((u + 1 : Nat) : Int) := by omega
            rw [beq_eq_false_iff_ne.2 this, beq_eq_false_iff_ne.2 e]
        have t7 : ((v : Int) == (u : Int) + 1) = y := t6
        have HX := Lib.hid (show (bb || y) = (bb || (u != farN && v == u + 1)) by rw [hy]; have h9 : (u != farN) = true := (by simpa using hf); rw [h9]; simp)
        have t8 : ¬ ((u : Int) + 1 < (v : Int)) := by omega
        have t9 : decide ((u : Int) + 1 < (v : Int)) = false := decide_eq_false t8
        clear hf hedge hult hvlt hb15 hvf hvle hub hy hn60
        go_wp2
        refine region_tail 24 (by kernel_rfl) (by kernel_rfl) fun wd hwd => ?_
        simp only [List.take_succ_cons, List.take_zero, List.drop_succ_cons, List.drop_zero]
        have S1 := Lib.hid (show UB wd g out by rw [hwd]; exact M1.out)
        have S2 := Lib.hid (show BB wd gl (ledTo out n (L.take k)) by rw [hwd]; exact M2.out)
        have S3 := Lib.hid (show Lies enc2 2 wd (some ⟨bx, ox, none⟩) L by rw [hwd]; exact M3.out)
        have S4 := Lib.hid (show Below W.heap.size W wd by rw [hwd]; exact M4.out.drew)
        have r0 : wd.cell? ⟨bx, ox + k * 2, none⟩ = some (.int .i64 (a : Int)) := by rw [hwd]; exact r0
        have r1 : wd.cell? ⟨bx, ox + k * 2 + 1, none⟩ = some (.int .i64 (z : Int)) := by rw [hwd]; exact r1
        have r2 : wd.cell? ⟨gl, z, none⟩ = some (.bool bb) := by rw [hwd]; exact r2
        have r3 : wd.frozen? ⟨gl, z, none⟩ = false := by rw [hwd]; exact r3
        clear hwd
        cases bb <;> cases y
        all_goals
          repeat still_step
          refine wpStill_nil ?_
          go_wp2
          go_roundw
          case rel => exact ⟨k + 1, by go_num, HK.out, HFIN.out wd _ S1.out S2.out S3.out S4.out HX.out⟩
          case measure => have := HK.out; simp [intOf]; omega
    · obtain rfl : k = L.length := by omega
      rw [List.take_length] at K2
      have HLD := Lib.hid (ledTo_len out n L)
      clear hk hlt k1 k2 k3 k4
      go_wp2
      go_loopw [14] (fun i wi => ∃ v : Nat, i = .int .i64 (v : Int) ∧ v ≤ n ∧ wi = wr) (fun i _ => n - (intOf i).toNat)
      case atStart => exact ⟨0, rfl, by omega, rfl⟩
      case round =>
        obtain ⟨v, rfl, hv, rfl⟩ := hrel
        by_cases hvn : v < n
        · have d0 := K1.out.cell (v := v) (by rw [HOL.out]; exact hvn)
          have d1 := K2.out.cell (v := v) (by rw [ledTo_len]; exact hvn)
          obtain ⟨y, hy⟩ : ∃ y, at_ out v = y := ⟨_, rfl⟩
          obtain ⟨bb, hbb⟩ : ∃ y, (ledTo out n L).getD v false = y := ⟨_, rfl⟩
          rw [hy] at d0
          rw [hbb] at d1
          have i1 : (v : Int) < (n : Int) := by omega
          have i2 : (v : Int) < 1000 := by have := HN12.out.2; omega
          have HV := Lib.hid hvn
          have hpre := HD.out.pre v
          rw [hy] at hpre
          by_cases hf : y = farN
          · have t1 : ((y : Int) != 18446744073709551615) = false := by rw [hf]; decide
            have t2 : ((y : Int) == 0) = false := by rw [hf]; decide
            clear hv hvn hy hbb hpre hf
            go_wp2
            go_roundw
            case rel => exact ⟨v + 1, by go_num, HV.out, trivial⟩
            case measure => have := HV.out; simp [intOf]; omega
          · have t1 : ((y : Int) != 18446744073709551615) = true := by
              have : (y : Int) ≠ 18446744073709551615 := fun q => hf (by unfold farN; omega)
              simpa using this
            by_cases h0 : y = 0
            · have hvs : v = s := by
                rcases hpre hf with ⟨e, _⟩ | ⟨u, _, _, e⟩
                · exact e
                · omega
              have t2 : ((y : Int) == 0) = true := by rw [h0]; rfl
              have t3 : ((y : Int) != 0) = false := by rw [h0]; rfl
              have t4 : ((v : Int) != (s : Int)) = false := by rw [hvs]; simp
              clear hv hvn hy hbb hpre hf h0 hvs
              go_wp2
              go_roundw
              case rel => exact ⟨v + 1, by go_num, HV.out, trivial⟩
              case measure => have := HV.out; simp [intOf]; omega
            · have hb1 : bb = true := by
                rcases hpre hf with ⟨_, e⟩ | ⟨u, he, hu, e⟩
                · exact absurd e h0
                · rw [← hbb]
                  exact ledTo_hit HG.out.edges he hu (by rw [hy]; exact e)
              have hy0 : (y : Int) ≠ 0 := by omega
              have t2 : ((y : Int) == 0) = false := by simpa using hy0
              have t3 : ((y : Int) != 0) = true := by simpa using hy0
              subst hb1
              clear hv hvn hy hbb hpre hf h0 hy0
              go_wp2
              go_roundw
              case rel => exact ⟨v + 1, by go_num, HV.out, trivial⟩
              case measure => have := HV.out; simp [intOf]; omega
        · obtain rfl : v = n := by omega
          clear hv hvn
          have HR2 := Lib.hid (HR.out wr)
          go_wp2_with (go_at_call 11; refine HR2.out.mono ?_; rintro e w9 ⟨rfl, hb9⟩; have HB9 := Lib.hid hb9; clear hb9)
          go_ret
          exact ⟨rfl, HB.out.trans ((K4.out.trans (HB9.out.mono K4.out.size)).mono HB.out.size)⟩
end Go.Proofs.Ytpmgkmodpneiiaa.E
