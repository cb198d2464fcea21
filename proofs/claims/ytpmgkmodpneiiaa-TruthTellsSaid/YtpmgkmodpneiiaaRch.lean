/- The document's Check and Bound. Conditions: none. -/
import Derived.Test.YtpmgkmodpneiiaaChb
namespace Go.Proofs.Ytpmgkmodpneiiaa.E
open Go.RowKit Go.Sort Go.Shelf
open Go.Proofs.Ytpmgkmodpneiiaa.Ma
set_option linter.unusedVariables false
set_option linter.unusedSimpArgs false
set_option maxRecDepth 100000 in
set_option maxHeartbeats 4000000 in
theorem rchk_at (k a p d n : Int) (w : World) : Calls Try.prog 20 #[rq k a p d, .int .i64 n] w fun e w' => e = .returned (.int .i64 (chk k a p n)) ∧ Below w.heap.size w w' := by
  obtain ⟨W, hW, hbl, c0, c1, c2, c3⟩ := box4 w k a p d
  have HB := Lib.hid hbl
  obtain ⟨v, hv⟩ : ∃ v, chk k a p n = v := ⟨_, rfl⟩
  rw [hv]
  rw [chk_ref] at hv
  obtain ⟨l0, hl0⟩ : ∃ l, lst k = l := ⟨_, rfl⟩
  obtain ⟨m0, hm0⟩ : ∃ l, mst k n = l := ⟨_, rfl⟩
  rw [hl0, hm0] at hv
  have HL := Lib.hid hl0
  have HM := Lib.hid hm0
  have HV := Lib.hid hv
  clear hbl hv hl0 hm0
  go_enter Try.func20, Try.ntmps20
  go_upto_block 0 with (fail)
  go_cut [5, 6] from 7 to 18 (fun s t wx => s = .int .i64 l0 ∧ t = .int .i64 m0 ∧ wx = W)
  case first =>
    by_cases k1 : k = 1
    · subst k1
      have HL2 := Lib.hid (show l0 = 0 by rw [← HL.out]; rfl)
      have HM2 := Lib.hid (show m0 = RowKit.wrap64 (n - 1) by rw [← HM.out]; rfl)
      go_wp2
      go_meet
      exact ⟨by rw [HL2.out], by rw [HM2.out], rfl⟩
    have e1 : (k == 1) = false := by simpa using k1
    by_cases k2 : k = 2
    · subst k2
      have HL2 := Lib.hid (show l0 = 1 by rw [← HL.out]; rfl)
      have HM2 := Lib.hid (show m0 = 64 by rw [← HM.out]; rfl)
      go_wp2
      go_meet
      exact ⟨by rw [HL2.out], by rw [HM2.out], rfl⟩
    have e2 : (k == 2) = false := by simpa using k2
    by_cases k3 : k = 3
    · subst k3
      have HL2 := Lib.hid (show l0 = 0 by rw [← HL.out]; rfl)
      have HM2 := Lib.hid (show m0 = 0 by rw [← HM.out]; rfl)
      go_wp2
      go_meet
      exact ⟨by rw [HL2.out], by rw [HM2.out], rfl⟩
    have e3 : (k == 3) = false := by simpa using k3
    by_cases k4 : k = 4
    · subst k4
      have HL2 := Lib.hid (show l0 = 0 by rw [← HL.out]; rfl)
      have HM2 := Lib.hid (show m0 = 4096 by rw [← HM.out]; rfl)
      go_wp2
      go_meet
      exact ⟨by rw [HL2.out], by rw [HM2.out], rfl⟩
    have e4 : (k == 4) = false := by simpa using k4
    have HL2 := Lib.hid (show l0 = 0 by rw [← HL.out]; unfold lst; rw [if_neg k2])
    have HM2 := Lib.hid (show m0 = -1 by rw [← HM.out]; unfold mst; rw [if_neg k1, if_neg k2, if_neg k3, if_neg k4])
    go_wp2
    go_meet
    exact ⟨by rw [HL2.out], by rw [HM2.out], rfl⟩
  case rest =>
    obtain ⟨rfl, rfl, rfl⟩ := hcut
    by_cases c0 : n < 1
    · have d0 : decide (n < 1) = true := decide_eq_true c0
      have HF := Lib.hid (show v = 2 by rw [← HV.out, if_pos (by omega)])
      go_wp2
      go_ret
      exact ⟨by rw [HF.out]; rfl, HB.out⟩
    have d0 : decide (n < 1) = false := decide_eq_false c0
    by_cases c1 : (256 : Int) < n
    · have d1 : decide ((256 : Int) < n) = true := decide_eq_true c1
      have HF := Lib.hid (show v = 2 by rw [← HV.out, if_pos (by omega)])
      go_wp2
      go_ret
      exact ⟨by rw [HF.out]; rfl, HB.out⟩
    have d1 : decide ((256 : Int) < n) = false := decide_eq_false c1
    by_cases c2 : p < 0
    · have d2 : decide (p < 0) = true := decide_eq_true c2
      have HF := Lib.hid (show v = 2 by rw [← HV.out, if_pos (by omega)])
      go_wp2
      go_ret
      exact ⟨by rw [HF.out]; rfl, HB.out⟩
    have d2 : decide (p < 0) = false := decide_eq_false c2
    by_cases c3 : (7 : Int) < p
    · have d3 : decide ((7 : Int) < p) = true := decide_eq_true c3
      have HF := Lib.hid (show v = 2 by rw [← HV.out, if_pos (by omega)])
      go_wp2
      go_ret
      exact ⟨by rw [HF.out]; rfl, HB.out⟩
    have d3 : decide ((7 : Int) < p) = false := decide_eq_false c3
    by_cases c4 : a < l0
    · have d4 : decide (a < l0) = true := decide_eq_true c4
      have HF := Lib.hid (show v = 2 by rw [← HV.out, if_pos (by omega)])
      go_wp2
      go_ret
      exact ⟨by rw [HF.out]; rfl, HB.out⟩
    have d4 : decide (a < l0) = false := decide_eq_false c4
    by_cases c5 : m0 < a
    · have d5 : decide (m0 < a) = true := decide_eq_true c5
      have HF := Lib.hid (show v = 2 by rw [← HV.out, if_pos (by omega)])
      go_wp2
      go_ret
      exact ⟨by rw [HF.out]; rfl, HB.out⟩
    have d5 : decide (m0 < a) = false := decide_eq_false c5
    have HF := Lib.hid (show v = 0 by rw [← HV.out, if_neg (by omega)])
    go_wp2
    go_ret
    exact ⟨by rw [HF.out]; rfl, HB.out⟩
set_option maxRecDepth 100000 in
theorem rbound_at (k a p d n : Int) (w : World) : Calls Try.prog 22 #[.int .i64 n, rq k a p d] w fun e w' => e = .returned (.int .i64 (bnd k a p n)) ∧ Below w.heap.size w w' := by
  obtain ⟨W, hW, hbl, c0, c1, c2, c3⟩ := box4 w k a p d
  have HB := Lib.hid hbl
  have HC := Lib.hid (rchk_at k a p d n W)
  obtain ⟨q, hq⟩ : ∃ q, chk k a p n = q := ⟨_, rfl⟩
  obtain ⟨v, hv⟩ : ∃ v, bnd k a p n = v := ⟨_, rfl⟩
  rw [hv]
  rw [hq] at HC
  unfold bnd at hv
  rw [hq] at hv
  have HK := Lib.hid (fun (W2 : World) (hb : Below W.heap.size W W2) => And.intro (keep_cell c0 hb) (keep_cell c1 hb))
  by_cases h0 : q = 0
  · subst h0
    have hn := chk_zero hq
    rw [if_neg (by decide)] at hv
    by_cases hk : k = 2
    · subst hk
      rw [if_pos rfl] at hv
      subst hv
      clear hbl hq hn
      go_enter Try.func22, Try.ntmps22
      go_wp2_with (go_at_call 20; refine HC.out.mono ?_; rintro e w2 ⟨rfl, hb2⟩; have B2 := Lib.hid hb2; obtain ⟨z0, z1⟩ := HK.out w2 hb2; clear hb2)
      go_ret
      exact ⟨rfl, HB.out.trans (B2.out.mono HB.out.size)⟩
    · rw [if_neg hk] at hv
      have e2 : (k == 2) = false := by simpa using hk
      have hn1 : n ≤ 256 := hn.2.1
      have hn2 : 1 ≤ n := hn.1
      have HV := Lib.hid hv
      clear hbl hq hn hv hk
      go_enter Try.func22, Try.ntmps22
      go_wp2_with (go_at_call 20; refine HC.out.mono ?_; rintro e w2 ⟨rfl, hb2⟩; have B2 := Lib.hid hb2; obtain ⟨z0, z1⟩ := HK.out w2 hb2; clear hb2)
      go_ret
      exact ⟨by rw [← HV.out]; rfl, HB.out.trans (B2.out.mono HB.out.size)⟩
  · rw [if_pos h0] at hv
    have e0 : (q != 0) = true := by simpa using h0
    subst hv
    clear hbl hq h0
    go_enter Try.func22, Try.ntmps22
    go_wp2_with (go_at_call 20; refine HC.out.mono ?_; rintro e w2 ⟨rfl, hb2⟩; have B2 := Lib.hid hb2; clear hb2)
    go_ret
    exact ⟨rfl, HB.out.trans (B2.out.mono HB.out.size)⟩
end Go.Proofs.Ytpmgkmodpneiiaa.E
