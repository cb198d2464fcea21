/- shards: the part of a shard's bytes. Conditions: those that each theorem names. -/
import Derived.Lib.QuietBelow
import Derived.Test.YtdlmkdldmiiaiaaRdr
namespace Go.Proofs.Ytdlmkdldmiiaiaa.E
open Go.RowKit Go.Sort Go.Shelf
open Go.Proofs.Ytdlmkdldmiiaiaa.Ma Go.Proofs.Ytdlmkdldmiiaiaa.By Go.Proofs.Ytdlmkdldmiiaiaa.Enc
set_option linter.unusedVariables false
set_option linter.unusedSimpArgs false
/-- Behind the numbers of a part: the part, the place, and whether there is none. -/
def partZ (s : ByteArray) (lo hi a : Int) (bad : Bool) : (Int × Int) × Int × Bool :=
  if bad = true ∨ mayC lo hi = false ∨ (s.size : Int) ≤ a then ((0, 0), a, true) else ((lo, hi), skipC s a false (1 + ((hi - lo) * bt s a + 7) / 8))
def partC (s : ByteArray) : (Int × Int) × Int × Bool :=
  partZ s (numC s (skipC s 0 false 2).1 (skipC s 0 false 2).2).1
    (numC s (numC s (skipC s 0 false 2).1 (skipC s 0 false 2).2).2.1 (numC s (skipC s 0 false 2).1 (skipC s 0 false 2).2).2.2).1
    (numC s (numC s (skipC s 0 false 2).1 (skipC s 0 false 2).2).2.1 (numC s (skipC s 0 false 2).1 (skipC s 0 false 2).2).2.2).2.1
    (numC s (numC s (skipC s 0 false 2).1 (skipC s 0 false 2).2).2.1 (numC s (skipC s 0 false 2).1 (skipC s 0 false 2).2).2.2).2.2
theorem skipC_in {s : ByteArray} {a : Int} {bad : Bool} {n : Int} (ha : 0 ≤ a ∧ a ≤ s.size) (hn : 0 ≤ n) : 0 ≤ (skipC s a bad n).1 ∧ (skipC s a bad n).1 ≤ s.size := by
  unfold skipC
  split <;> (dsimp only; omega)
theorem numC_in {s : ByteArray} {a : Int} {bad : Bool} (ha : 0 ≤ a ∧ a ≤ s.size) : 0 ≤ (numC s a bad).2.1 ∧ (numC s a bad).2.1 ≤ s.size := by
  unfold numC
  obtain ⟨m, nx, ok, hg⟩ : ∃ m nx ok, getC s a = (m, nx, ok) := ⟨_, _, _, rfl⟩
  rw [hg]
  cases ok
  · exact ha
  · have := getC_bound hg
    show 0 ≤ nx ∧ nx ≤ _
    omega
theorem partZ_in {s : ByteArray} {lo hi a : Int} {bad : Bool} (ha : 0 ≤ a ∧ a ≤ s.size) : 0 ≤ (partZ s lo hi a bad).2.1 ∧ (partZ s lo hi a bad).2.1 ≤ s.size := by
  unfold partZ
  split
  · exact ha
  · rename_i hc
    refine skipC_in ha ?_
    have hm : mayC lo hi = true := by
      cases h : mayC lo hi
      · exact absurd (.inr (.inl h)) hc
      · rfl
    obtain ⟨h0, h1, h2⟩ := mayC_in hm
    have hb : 0 ≤ bt s a := by unfold bt; split <;> omega
    have : 0 ≤ (hi - lo) * bt s a := Int.mul_nonneg (by omega) hb
    omega
theorem arg_skip (m7 q8 : Nat) (h : m7 / 8 = q8) (h2 : q8 ≤ 8200) : wrap64 (1 + wrap64 ((m7 : Int) / 8)) = 1 + (q8 : Int) := by
  have e1 : (m7 : Int) / 8 = (q8 : Int) := by omega
  rw [e1, IntWalk.wrap64_in (q8 : Int) ⟨by omega, by omega⟩, IntWalk.wrap64_in _ ⟨by omega, by omega⟩]
/-- A box of a part. -/
abbrev Box2 (w : World) (b : Nat) (x y : Int) : Prop := w.heap[b]? = some (.cells #[.int .i64 x, .int .i64 y] 24 (0, 0))
theorem set_box {w : World} {G : Nat} {x y : Int} (h : Box2 w G x y) (lo hi : Int) : Box2 ((w.setCell ⟨G, 0, none⟩ (.int .i64 lo)).setCell ⟨G, 1, none⟩ (.int .i64 hi)) G lo hi ∧ Fr (fun k => k = G) w ((w.setCell ⟨G, 0, none⟩ (.int .i64 lo)).setCell ⟨G, 1, none⟩ (.int .i64 hi)) :=
  ⟨heap_setCell_at (heap_setCell_at h _) _, (Fr.setCell w ⟨G, 0, none⟩ _).trans (Fr.setCell _ ⟨G, 1, none⟩ _)⟩
attribute [local irreducible] wpQuiet in
set_option maxRecDepth 100000 in
set_option maxHeartbeats 4000000 in
theorem part_at (R : Nat) (s : ByteArray) (w : World) (h : RdS R w s 0 false) (hs : s.size ≤ 1000000) :
    Calls Try.prog 33 #[.pointer (some ⟨R, 0, none⟩)] w fun e w' => e = .returned (partV (partC s).1.1 (partC s).1.2) ∧ RdS R w' s (partC s).2.1 (partC s).2.2 ∧ Fr (fun k => k = R) w w' := by
  unfold partC
  obtain ⟨a0, b0, h0⟩ : ∃ a b, skipC s 0 false 2 = (a, b) := ⟨_, _, rfl⟩
  have i0 := skipC_in (s := s) (a := 0) (bad := false) (n := 2) (by omega) (by omega)
  obtain ⟨lo, a1, b1, h1⟩ : ∃ l a b, numC s a0 b0 = (l, a, b) := ⟨_, _, _, rfl⟩
  obtain ⟨hi, a2, b2, h2⟩ : ∃ l a b, numC s a1 b1 = (l, a, b) := ⟨_, _, _, rfl⟩
  rw [h0] at i0
  have i1 := numC_in (bad := b0) i0
  rw [h1] at i1
  have i2 := numC_in (bad := b1) i1
  rw [h2] at i2
  rw [h0]
  dsimp only
  rw [h1]
  dsimp only
  rw [h2]
  dsimp only
  dsimp only at i2
  obtain ⟨⟨⟨pl, ph⟩, pa, pb⟩, hP⟩ : ∃ P, partZ s lo hi a2 b2 = P := ⟨_, rfl⟩
  rw [hP]
  dsimp only
  have HP := Lib.hid hP
  unfold partV
  have HSK := Lib.hid (fun V (hV : RdS R V s 0 false) => skip_at R s 0 false 2 V hV (by omega) hs (by omega))
  rw [h0] at HSK
  have HN1 := Lib.hid (fun V (hV : RdS R V s a0 b0) => number_at R s a0 b0 V hV hs)
  rw [h1] at HN1
  have HN2 := Lib.hid (fun V (hV : RdS R V s a1 b1) => number_at R s a1 b1 V hV hs)
  rw [h2] at HN2
  dsimp only at HSK HN1 HN2
  have HSS := Lib.hid hs
  have HR := Lib.hid h
  have HI2 := Lib.hid i2
  obtain ⟨W0, hW0, gW0, bW0, sW0⟩ := box_new w (.cells #[.int .i64 0, .int .i64 0] 24 (0, 0))
  have HG0 := Lib.hid gW0
  have HBW := Lib.hid bW0
  have HR0 := Lib.hid (h.to bW0)
  clear h hs hP h0 h1 h2 i0 i1 i2 gW0 bW0 sW0
  go_enter Try.func33, Try.ntmps33
  go_upto_region 2 with (go_at_call 62; refine (HSK.out _ HR0.out).mono ?_; rintro e w1 ⟨rfl, hr1, hf1, hs1⟩; have HR1 := Lib.hid hr1; have HF1 := Lib.hid hf1; have HS1 := Lib.hid hs1; clear hr1 hf1 hs1)
  obtain ⟨G, hG⟩ : ∃ G, w1.heap.size = G := ⟨_, rfl⟩
  have HG := Lib.hid hG
  have hRG : R < G := by rw [← hG]; exact HR1.out.lt
  have HRG := Lib.hid hRG
  go_cut [3] from 3 to 17 (fun p wx => p = .pointer (some ⟨G, 0, none⟩) ∧ RdS R wx s a2 b2 ∧ Box2 wx G lo hi ∧ Fr (fun k => k = R) w1 wx)
  case first =>
    clear hRG
    go_region_held3 (fun _ => True)
      (first | trivial)
      ((first
        | (go_at_call 63; refine (HN2.out _ HRb.out).mono ?_; rintro e wc ⟨rfl, hrc, hfc, hsc⟩; have HRc := Lib.hid hrc; have HFc := Lib.hid (HFb.out.trans hfc); have hgc : Box2 wc G 0 0 := hfc.keep HGB.out (fun e => Nat.ne_of_gt HRG.out e); have k0 := cell_of_heap (i := 0) hgc rfl; have k1 := cell_of_heap (i := 1) hgc rfl; have kf0 := free_of_heap (i := 0) hgc (by simp); have kf1 := free_of_heap (i := 1) hgc (by simp); have HGC := Lib.hid hgc; clear hrc hfc hsc hgc)
        | (go_at_call 63; refine (HN2.out _ HRb.out).mono ?_; rintro e wc ⟨rfl, hrc, hfc, hsc⟩; have HRc := Lib.hid hrc; have HFc := Lib.hid (HFb.out.trans hfc); have hszc : wc.heap.size = G := hsc.trans hszb; clear hrc hfc hsc)
        | (go_at_call 63; refine (HN2.out _ (HRb.out.to ((Below.refl _ wb).alloc (Nat.le_refl _) (.cells #[.int .i64 0, .int .i64 0] 24)))).mono ?_; rintro e wc ⟨rfl, hrc, hfc, hsc⟩; have HRc := Lib.hid hrc; have HFc := Lib.hid ((HFb.out.trans ((Fr.alloc wb _).mono (fun _ e => e.elim))).trans hfc); have hgc : Box2 wc G 0 0 := hfc.keep (by rw [← hszb]; exact heap_alloc_new wb _) (fun e => Nat.ne_of_gt HRG.out e); have k0 := cell_of_heap (i := 0) hgc rfl; have k1 := cell_of_heap (i := 1) hgc rfl; have kf0 := free_of_heap (i := 0) hgc (by simp); have kf1 := free_of_heap (i := 1) hgc (by simp); have HGC := Lib.hid hgc; clear hrc hfc hsc hgc)
        | (go_at_call 63; refine (HN1.out w1.drew HR1.out).mono ?_; rintro e wb ⟨rfl, hrb, hfb, hsb⟩; have HRb := Lib.hid hrb; have HFb := Lib.hid (((Fr.drew w1).mono (T := fun k => k = R) (fun _ e => e.elim)).trans hfb); have hszb : wb.heap.size = G := hsb.trans HG.out; clear hrb hfb hsb)
        | (go_at_call 63; refine (HN1.out _ (RdS.to (w := w1.drew) HR1.out ((Below.refl _ w1.drew).alloc (Nat.le_refl _) (.cells #[.int .i64 0, .int .i64 0] 24)))).mono ?_; rintro e wb ⟨rfl, hrb, hfb, hsb⟩; have HRb := Lib.hid hrb; have HFb := Lib.hid ((((Fr.drew w1).trans (Fr.alloc _ _)).mono (T := fun k => k = R) (fun _ e => e.elim)).trans hfb); have HGB := Lib.hid (show Box2 wb G 0 0 from hfb.keep (by rw [← HG.out]; exact heap_alloc_new w1.drew _) (fun e => Nat.ne_of_gt HRG.out e)); clear hrb hfb hsb)))
    · have Q := Lib.hid (And.intro (HRc.out.fr ((Fr.alloc wc (.cells #[.int .i64 lo, .int .i64 hi] 24)).mono (T := fun _ => False) (fun _ e => e)) (fun e => e)) (And.intro (show Box2 (wc.alloc (.cells #[.int .i64 lo, .int .i64 hi] 24)) G lo hi by rw [← hszc]; exact heap_alloc_new wc _) (HFc.out.trans ((Fr.alloc wc (.cells #[.int .i64 lo, .int .i64 hi] 24)).mono (T := fun k => k = R) (fun _ e => e.elim)))))
      go_wp2
      go_meet
      exact ⟨rfl, Q.out.1, Q.out.2.1, Q.out.2.2⟩
    all_goals
      have q := set_box HGC.out lo hi
      have Q := Lib.hid (And.intro (HRc.out.fr q.2 (fun e => Nat.ne_of_lt HRG.out e)) (And.intro q.1 (HFc.out.step q.2 (fun i e => .inr (by rw [HG.out, e]; exact Nat.le_refl _)))))
      clear q
      go_wp2
      go_meet
      exact ⟨rfl, Q.out.1, Q.out.2.1, Q.out.2.2⟩
  case rest =>
    obtain ⟨rfl, hrc, hgc, hfc⟩ := hcut
    have HRC := Lib.hid hrc
    have HGC := Lib.hid hgc
    have HFW := Lib.hid (show Fr (fun k => k = R) w wc from (((Fr.of_below HBW.out).mono (fun _ e => e.elim)).trans HF1.out).trans hfc)
    have HZ := Lib.hid (show wc.heap[w.heap.size]? = some (.cells #[.int .i64 0, .int .i64 0] 24 (0, 0)) from by
      have h1 := HF1.out.keep HG0.out (fun e => Nat.ne_of_gt HR.out.lt e)
      exact hfc.keep h1 (fun e => Nat.ne_of_gt HR.out.lt e))
    have HRL := Lib.hid HR.out.lt
    obtain ⟨c0, c1, c2, f1, f2⟩ := hrc.cells
    have s0 := fun d os => cell_regrown c0 d os
    have s1 := fun d os => cell_regrown c1 d os
    have s2 := fun d os => cell_regrown c2 d os
    have s3 := fun d os => cell_regrown (cell_of_heap (i := 0) (v := .int .i64 lo) hgc rfl) d os
    have s4 := fun d os => cell_regrown (cell_of_heap (i := 1) (v := .int .i64 hi) hgc rfl) d os
    have HMAY := Lib.hid (fun V => may_at lo hi V)
    unfold partV at HMAY
    clear hrc hgc hfc hRG hG hW0
    have HCASE := Lib.hid (show b2 = true ∨ mayC lo hi = false ∨ (s.size : Int) ≤ a2 → ((pl, ph), pa, pb) = ((0, 0), a2, true) from fun h => by rw [← HP.out]; unfold partZ; rw [if_pos h])
    cases b2 with
    | true =>
      have := HCASE.out (.inl rfl)
      cases this
      go_upto_region 3 with (fail)
      refine wp_region_quiet_below (by kernel_rfl) (by kernel_rfl) ?_
      repeat (quiet_step (fail))
      refine wpQuiet_nil ?_
      intro w9 hw9
      have B9 := Lib.hid (show Below wc.heap.size wc w9 by obtain ⟨p, rfl⟩ := hw9; exact below_regrown _ _ _)
      clear hw9 s0 s1 s2 s3 s4 c0 c1 c2 f1 f2
      have E := Lib.hid (HRC.out.to B9.out)
      have Z := Lib.hid ((Fr.of_below B9.out).keep HZ.out (fun e => e))
      obtain ⟨c0, c1, c2, f1, f2⟩ := E.out.cells
      have z0 := cell_of_heap (i := 0) (v := .int .i64 0) Z.out rfl
      have z1 := cell_of_heap (i := 1) (v := .int .i64 0) Z.out rfl
      have y0 := free_of_heap (i := 0) Z.out (by simp)
      have y1 := free_of_heap (i := 1) Z.out (by simp)
      go_upto_region 5 with (fail)
      obtain ⟨w10, hw10⟩ : ∃ V, w9.setCell ⟨R, 2, none⟩ (.bool true) = V := ⟨_, rfl⟩
      have E2 := Lib.hid (show RdS R w10 s a2 true by rw [← hw10]; exact E.out.setB)
      have Z2 := Lib.hid (show w10.heap[w.heap.size]? = some (.cells #[.int .i64 0, .int .i64 0] 24 (0, 0)) by rw [← hw10]; exact (Fr.setCell w9 ⟨R, 2, none⟩ (.bool true)).keep Z.out (fun e => Nat.ne_of_gt HRL.out e))
      have F2 := Lib.hid (show Fr (fun k => k = R) w w10 by rw [← hw10]; exact (HFW.out.trans ((Fr.of_below B9.out).mono (fun _ e => e.elim))).trans (Fr.setCell w9 ⟨R, 2, none⟩ (.bool true)))
      rw [hw10]
      clear hw10 c0 c1 c2 f1 f2 z0 z1 y0 y1
      have z0 := cell_of_heap (i := 0) (v := .int .i64 0) Z2.out rfl
      have z1 := cell_of_heap (i := 1) (v := .int .i64 0) Z2.out rfl
      have y0 := free_of_heap (i := 0) Z2.out (by simp)
      have y1 := free_of_heap (i := 1) Z2.out (by simp)
      go_wp2
      obtain ⟨w11, hw11⟩ : ∃ V, (w10.setCell ⟨w.heap.size, 0, none⟩ (.int .i64 0)).setCell ⟨w.heap.size, 1, none⟩ (.int .i64 0) = V := ⟨_, rfl⟩
      have q := set_box Z2.out 0 0
      rw [hw11] at q ⊢
      have r0 := cell_of_heap (i := 0) (v := .int .i64 0) q.1 rfl
      have r1 := cell_of_heap (i := 1) (v := .int .i64 0) q.1 rfl
      have Q := Lib.hid (And.intro (E2.out.fr q.2 (fun e => Nat.ne_of_lt HRL.out e)) (F2.out.step q.2 (fun i e => .inr (by rw [e]; exact Nat.le_refl _))))
      clear hw11 q z0 z1 y0 y1
      exact bodyPost_ret (v := .agg #[.int .i64 0, .int .i64 0]) (by simp [results, Try.results33, go_sem, r0, r1]) rfl ⟨rfl, Q.out.1, Q.out.2⟩
    | false =>
      have LS := Lib.hid (show (s.size : Int) ≤ 1000000 by have := HSS.out; omega)
      cases hmay : mayC lo hi with
      | false =>
        rw [hmay] at HMAY HCASE
        have := HCASE.out (.inr (.inl rfl))
        cases this
        clear hmay
        go_upto_region 3 with (fail)
        refine wp_region_quiet_below (by kernel_rfl) (by kernel_rfl) ?_
        repeat (quiet_step ((go_at_call 29; exact Calls.regrown_of (HMAY.out _))))
        refine wpQuiet_nil ?_
        intro w9 hw9
        have B9 := Lib.hid (show Below wc.heap.size wc w9 by obtain ⟨p, rfl⟩ := hw9; exact below_regrown _ _ _)
        clear hw9 s0 s1 s2 s3 s4 c0 c1 c2 f1 f2
        have E := Lib.hid (HRC.out.to B9.out)
        have Z := Lib.hid ((Fr.of_below B9.out).keep HZ.out (fun e => e))
        obtain ⟨c0, c1, c2, f1, f2⟩ := E.out.cells
        have z0 := cell_of_heap (i := 0) (v := .int .i64 0) Z.out rfl
        have z1 := cell_of_heap (i := 1) (v := .int .i64 0) Z.out rfl
        have y0 := free_of_heap (i := 0) Z.out (by simp)
        have y1 := free_of_heap (i := 1) Z.out (by simp)
        go_upto_region 5 with (fail)
        obtain ⟨w10, hw10⟩ : ∃ V, w9.setCell ⟨R, 2, none⟩ (.bool true) = V := ⟨_, rfl⟩
        have E2 := Lib.hid (show RdS R w10 s a2 true by rw [← hw10]; exact E.out.setB)
        have Z2 := Lib.hid (show w10.heap[w.heap.size]? = some (.cells #[.int .i64 0, .int .i64 0] 24 (0, 0)) by rw [← hw10]; exact (Fr.setCell w9 ⟨R, 2, none⟩ (.bool true)).keep Z.out (fun e => Nat.ne_of_gt HRL.out e))
        have F2 := Lib.hid (show Fr (fun k => k = R) w w10 by rw [← hw10]; exact (HFW.out.trans ((Fr.of_below B9.out).mono (fun _ e => e.elim))).trans (Fr.setCell w9 ⟨R, 2, none⟩ (.bool true)))
        rw [hw10]
        clear hw10 c0 c1 c2 f1 f2 z0 z1 y0 y1
        have z0 := cell_of_heap (i := 0) (v := .int .i64 0) Z2.out rfl
        have z1 := cell_of_heap (i := 1) (v := .int .i64 0) Z2.out rfl
        have y0 := free_of_heap (i := 0) Z2.out (by simp)
        have y1 := free_of_heap (i := 1) Z2.out (by simp)
        go_wp2
        obtain ⟨w11, hw11⟩ : ∃ V, (w10.setCell ⟨w.heap.size, 0, none⟩ (.int .i64 0)).setCell ⟨w.heap.size, 1, none⟩ (.int .i64 0) = V := ⟨_, rfl⟩
        have q := set_box Z2.out 0 0
        rw [hw11] at q ⊢
        have r0 := cell_of_heap (i := 0) (v := .int .i64 0) q.1 rfl
        have r1 := cell_of_heap (i := 1) (v := .int .i64 0) q.1 rfl
        have Q := Lib.hid (And.intro (E2.out.fr q.2 (fun e => Nat.ne_of_lt HRL.out e)) (F2.out.step q.2 (fun i e => .inr (by rw [e]; exact Nat.le_refl _))))
        clear hw11 q z0 z1 y0 y1
        exact bodyPost_ret (v := .agg #[.int .i64 0, .int .i64 0]) (by simp [results, Try.results33, go_sem, r0, r1]) rfl ⟨rfl, Q.out.1, Q.out.2⟩
      | true =>
        rw [hmay] at HMAY HCASE
        have HIN := Lib.hid (mayC_in hmay)
        have i3 : 0 ≤ a2 := HI2.out.1
        have i4 : a2 ≤ 1000000 := by have := HI2.out.2; have := HSS.out; omega
        by_cases hle : (s.size : Int) ≤ a2
        · have := HCASE.out (.inr (.inr hle))
          cases this
          have j1 : decide (a2 ≥ (s.size : Int)) = true := decide_eq_true hle
          clear hmay
          go_upto_region 3 with (fail)
          refine wp_region_quiet_below (by kernel_rfl) (by kernel_rfl) ?_
          repeat (quiet_step ((go_at_call 29; exact Calls.regrown_of (HMAY.out _))))
          refine wpQuiet_nil ?_
          intro w9 hw9
          have B9 := Lib.hid (show Below wc.heap.size wc w9 by obtain ⟨p, rfl⟩ := hw9; exact below_regrown _ _ _)
          clear hw9 s0 s1 s2 s3 s4 c0 c1 c2 f1 f2
          have E := Lib.hid (HRC.out.to B9.out)
          have Z := Lib.hid ((Fr.of_below B9.out).keep HZ.out (fun e => e))
          obtain ⟨c0, c1, c2, f1, f2⟩ := E.out.cells
          have z0 := cell_of_heap (i := 0) (v := .int .i64 0) Z.out rfl
          have z1 := cell_of_heap (i := 1) (v := .int .i64 0) Z.out rfl
          have y0 := free_of_heap (i := 0) Z.out (by simp)
          have y1 := free_of_heap (i := 1) Z.out (by simp)
          go_upto_region 5 with (fail)
          obtain ⟨w10, hw10⟩ : ∃ V, w9.setCell ⟨R, 2, none⟩ (.bool true) = V := ⟨_, rfl⟩
          have E2 := Lib.hid (show RdS R w10 s a2 true by rw [← hw10]; exact E.out.setB)
          have Z2 := Lib.hid (show w10.heap[w.heap.size]? = some (.cells #[.int .i64 0, .int .i64 0] 24 (0, 0)) by rw [← hw10]; exact (Fr.setCell w9 ⟨R, 2, none⟩ (.bool true)).keep Z.out (fun e => Nat.ne_of_gt HRL.out e))
          have F2 := Lib.hid (show Fr (fun k => k = R) w w10 by rw [← hw10]; exact (HFW.out.trans ((Fr.of_below B9.out).mono (fun _ e => e.elim))).trans (Fr.setCell w9 ⟨R, 2, none⟩ (.bool true)))
          rw [hw10]
          clear hw10 c0 c1 c2 f1 f2 z0 z1 y0 y1
          have z0 := cell_of_heap (i := 0) (v := .int .i64 0) Z2.out rfl
          have z1 := cell_of_heap (i := 1) (v := .int .i64 0) Z2.out rfl
          have y0 := free_of_heap (i := 0) Z2.out (by simp)
          have y1 := free_of_heap (i := 1) Z2.out (by simp)
          go_wp2
          obtain ⟨w11, hw11⟩ : ∃ V, (w10.setCell ⟨w.heap.size, 0, none⟩ (.int .i64 0)).setCell ⟨w.heap.size, 1, none⟩ (.int .i64 0) = V := ⟨_, rfl⟩
          have q := set_box Z2.out 0 0
          rw [hw11] at q ⊢
          have r0 := cell_of_heap (i := 0) (v := .int .i64 0) q.1 rfl
          have r1 := cell_of_heap (i := 1) (v := .int .i64 0) q.1 rfl
          have Q := Lib.hid (And.intro (E2.out.fr q.2 (fun e => Nat.ne_of_lt HRL.out e)) (F2.out.step q.2 (fun i e => .inr (by rw [e]; exact Nat.le_refl _))))
          clear hw11 q z0 z1 y0 y1
          exact bodyPost_ret (v := .agg #[.int .i64 0, .int .i64 0]) (by simp [results, Try.results33, go_sem, r0, r1]) rfl ⟨rfl, Q.out.1, Q.out.2⟩
        · have hpp : ((pl, ph), pa, pb) = ((lo, hi), skipC s a2 false (1 + ((hi - lo) * bt s a2 + 7) / 8)) := by
            rw [← HP.out]
            unfold partZ
            rw [if_neg (by rw [hmay]; simp; omega)]
          have hin := HIN.out
          obtain ⟨x, hx⟩ : ∃ x : Nat, bt s a2 = (x : Int) := ⟨(bt s a2).toNat, by have : 0 ≤ bt s a2 := by unfold bt; split <;> omega
                                                                                  omega⟩
          have hx256 : x < 256 := by
            have : bt s a2 < 256 := by
              unfold bt
              split
              · have := (s[a2.toNat]'(by assumption)).toNat_lt; omega
              · omega
            omega
          obtain ⟨d, hd⟩ : ∃ d : Nat, hi - lo = (d : Int) := ⟨(hi - lo).toNat, by omega⟩
          have hd256 : d ≤ 256 := by omega
          obtain ⟨m, hm⟩ : ∃ m : Nat, d * x = m := ⟨_, rfl⟩
          have hm6 : m ≤ 65280 := by rw [← hm]; exact Nat.mul_le_mul hd256 (show x ≤ 255 by omega)
          obtain ⟨q8, hq8⟩ : ∃ q : Nat, (m + 7) / 8 = q := ⟨_, rfl⟩
          have hq9 : q8 ≤ 8200 := by omega
          rw [hd, hx, show ((d : Int) * (x : Int)) = (m : Int) by rw [← hm]; push_cast; rfl, show (1 : Int) + ((m : Int) + 7) / 8 = 1 + (q8 : Int) by omega] at hpp
          obtain ⟨sa, sb, hsk⟩ : ∃ a b, skipC s a2 false (1 + (q8 : Int)) = (a, b) := ⟨_, _, rfl⟩
          rw [hsk] at hpp
          cases hpp
          have HSK2 := Lib.hid (fun V (hV : RdS R V s a2 false) => skip_at R s a2 false (1 + (q8 : Int)) V hV HI2.out HSS.out (by omega))
          rw [hsk] at HSK2
          dsimp only at HSK2
          have j1 : decide (a2 ≥ (s.size : Int)) = false := decide_eq_false hle
          have p6 := eq_true (show 0 ≤ a2 by omega)
          have q6 := eq_true (show a2 < (s.size : Int) by omega)
          have hx6 := bt_at s a2
          rw [hx] at hx6
          have i5 : (x : Int) < 256 := by omega
          have k1 : IntKind.i64.wrap (hi - lo) = (d : Int) := by rw [hd]; exact IntWalk.i64_in _ ⟨by omega, by omega⟩
          have k2 : IntKind.i64.wrap ((d : Int) * (x : Int)) = (m : Int) := by rw [show ((d : Int) * (x : Int)) = (m : Int) by rw [← hm]; push_cast; rfl]; exact IntWalk.i64_in _ ⟨by omega, by omega⟩
          have k3 : IntKind.i64.wrap ((m : Int) + 7) = ((m + 7 : Nat) : Int) := by rw [show ((m : Int) + 7) = ((m + 7 : Nat) : Int) by omega]; exact IntWalk.i64_in _ ⟨by omega, by omega⟩
          obtain ⟨m7, hm7⟩ : ∃ m7 : Nat, m + 7 = m7 := ⟨_, rfl⟩
          rw [hm7] at k3
          have HQ := Lib.hid (show m7 / 8 = q8 by rw [← hm7]; exact hq8)
          have HB7 := Lib.hid (show m7 ≤ 65287 ∧ q8 ≤ 8200 by omega)
          clear hmay hin hx hx256 hd hd256 hm hm6 hq8 hq9 hsk hm7
          go_upto_region 3 with (fail)
          refine wp_region_quiet_below (by kernel_rfl) (by kernel_rfl) ?_
          repeat (quiet_step ((go_at_call 29; exact Calls.regrown_of (HMAY.out _))))
          refine wpQuiet_nil ?_
          intro w9 hw9
          have B9 := Lib.hid (show Below wc.heap.size wc w9 by obtain ⟨p, rfl⟩ := hw9; exact below_regrown _ _ _)
          clear hw9 s0 s1 s2 s3 s4 c0 c1 c2 f1 f2
          have E := Lib.hid (HRC.out.to B9.out)
          have Z := Lib.hid ((Fr.of_below B9.out).keep HZ.out (fun e => e))
          have GX := Lib.hid ((Fr.of_below B9.out).keep HGC.out (fun e => e))
          obtain ⟨c0, c1, c2, f1, f2⟩ := E.out.cells
          go_upto_region 6 with (fail)
          go_quiet (fail)
          have D9 := Lib.hid (show RdS R (w9.drewN nq) s a2 false from E.out)
          have GD := Lib.hid (show Box2 (w9.drewN nq) G lo hi from GX.out)
          have ZD := Lib.hid (show (w9.drewN nq).heap[w.heap.size]? = some (.cells #[.int .i64 0, .int .i64 0] 24 (0, 0)) from Z.out)
          have BD := Lib.hid (show Below wc.heap.size wc (w9.drewN nq) from B9.out.trans ((below_drewNg w9 nq).mono B9.out.size))
          obtain ⟨w12, hw12⟩ : ∃ V, w9.drewN nq = V := ⟨_, rfl⟩
          rw [hw12] at D9 GD ZD BD ⊢
          clear c0 c1 c2 f1 f2 hx6 p6 q6 hw12
          go_upto_region 7 with (fail)
          refine region_tail 13 (by kernel_rfl) (by kernel_rfl) fun wd hwd => ?_
          simp only [List.take_succ_cons, List.take_zero, List.drop_succ_cons, List.drop_zero]
          have D9' := Lib.hid (show RdS R wd s a2 false by rw [hwd]; exact D9.out)
          have GD' := Lib.hid (show Box2 wd G lo hi by rw [hwd]; exact GD.out)
          have ZD' := Lib.hid (show wd.heap[w.heap.size]? = some (.cells #[.int .i64 0, .int .i64 0] 24 (0, 0)) by rw [hwd]; exact ZD.out)
          have BD' := Lib.hid (show Below wc.heap.size wc wd by rw [hwd]; exact BD.out.drew)
          clear hwd
          have g0 := cell_of_heap (i := 0) (v := .int .i64 lo) GD'.out rfl
          have g1 := cell_of_heap (i := 1) (v := .int .i64 hi) GD'.out rfl
          repeat still_step
          refine wpStill_nil ?_
          have HARG := Lib.hid (arg_skip m7 q8 HQ.out HB7.out.2)
          clear k1 k2 k3 g0 g1
          go_upto_region 8 with (go_at_call 62; rw [HARG.out]; refine (HSK2.out wd D9'.out).mono ?_; rintro e w14 ⟨rfl, hr, hf, hz⟩; have HR14 := Lib.hid hr; have HF14 := Lib.hid hf; clear hr hf hz)
          have GE := Lib.hid (HF14.out.keep GD'.out (fun e => Nat.ne_of_gt HRG.out e))
          have ZE := Lib.hid (HF14.out.keep ZD'.out (fun e => Nat.ne_of_gt HRL.out e))
          have g0 := cell_of_heap (i := 0) (v := .int .i64 lo) GE.out rfl
          have g1 := cell_of_heap (i := 1) (v := .int .i64 hi) GE.out rfl
          have z0 := cell_of_heap (i := 0) (v := .int .i64 0) ZE.out rfl
          have z1 := cell_of_heap (i := 1) (v := .int .i64 0) ZE.out rfl
          have y0 := free_of_heap (i := 0) ZE.out (by simp)
          have y1 := free_of_heap (i := 1) ZE.out (by simp)
          go_wp2
          obtain ⟨w11, hw11⟩ : ∃ V, (w14.setCell ⟨w.heap.size, 0, none⟩ (.int .i64 lo)).setCell ⟨w.heap.size, 1, none⟩ (.int .i64 hi) = V := ⟨_, rfl⟩
          have q := set_box ZE.out lo hi
          rw [hw11] at q ⊢
          have r0 := cell_of_heap (i := 0) (v := .int .i64 lo) q.1 rfl
          have r1 := cell_of_heap (i := 1) (v := .int .i64 hi) q.1 rfl
          have Q := Lib.hid (And.intro (HR14.out.fr q.2 (fun e => Nat.ne_of_lt HRL.out e)) (((HFW.out.trans ((Fr.of_below BD'.out).mono (fun _ e => e.elim))).trans HF14.out).step q.2 (fun i e => .inr (by rw [e]; exact Nat.le_refl _))))
          clear hw11 q z0 z1 y0 y1 g0 g1
          exact bodyPost_ret (v := .agg #[.int .i64 lo, .int .i64 hi]) (by simp [results, Try.results33, go_sem, r0, r1]) rfl ⟨rfl, Q.out.1, Q.out.2⟩
end Go.Proofs.Ytdlmkdldmiiaiaa.E
