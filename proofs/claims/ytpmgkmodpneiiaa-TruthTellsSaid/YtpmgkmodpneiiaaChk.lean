/- Check and Bound, both. Conditions: none. -/
import Derived.Test.YtpmgkmodpneiiaaRef
namespace Go.Proofs.Ytpmgkmodpneiiaa.E
open Go.RowKit Go.Sort Go.Shelf
open Go.Proofs.Ytpmgkmodpneiiaa.Ma
set_option linter.unusedVariables false
set_option linter.unusedSimpArgs false
def okN (n p : Int) : Bool := decide (1 ≤ n ∧ n ≤ 256 ∧ 0 ≤ p ∧ p ≤ 7)
def argOk (k a n : Int) : Bool := if k = 1 then decide (0 ≤ a ∧ a < n) else if k = 2 then decide (1 ≤ a ∧ a ≤ 64) else if k = 3 then decide (a = 0) else if k = 4 then decide (0 ≤ a ∧ a ≤ 4096) else false
/-- What Check answers: a job's kind, argument, priority; how many vertices. -/
def chk (k a p n : Int) : Int := if (okN n p && argOk k a n) = true then 0 else 2
abbrev rq (k a p d : Int) : Value := .agg #[.int .i64 k, .int .i64 a, .int .i64 p, .int .i64 d]
theorem box4 (w : World) (k a p d : Int) : ∃ W, w.alloc (.cells #[.int .i64 k, .int .i64 a, .int .i64 p, .int .i64 d] 24) = W ∧ Below w.heap.size w W ∧ W.cell? ⟨w.heap.size, 0, none⟩ = some (.int .i64 k) ∧ W.cell? ⟨w.heap.size, 1, none⟩ = some (.int .i64 a) ∧ W.cell? ⟨w.heap.size, 2, none⟩ = some (.int .i64 p) ∧ W.cell? ⟨w.heap.size, 3, none⟩ = some (.int .i64 d) := by
  obtain ⟨W, hW, gW, hbl, _⟩ := box_new w (.cells #[.int .i64 k, .int .i64 a, .int .i64 p, .int .i64 d] 24 (0, 0))
  exact ⟨W, hW, hbl, cell_of_heap gW rfl, cell_of_heap gW rfl, cell_of_heap gW rfl, cell_of_heap gW rfl⟩
set_option maxRecDepth 100000 in
set_option maxHeartbeats 4000000 in
theorem chk_at (k a p d n : Int) (w : World) : Calls Try.prog 19 #[rq k a p d, .int .i64 n] w fun e w' => e = .returned (.int .i64 (chk k a p n)) ∧ Below w.heap.size w w' := by
  obtain ⟨W, hW, hbl, c0, c1, c2, c3⟩ := box4 w k a p d
  have HB := Lib.hid hbl
  obtain ⟨q0, hq0⟩ : ∃ q, okN n p = q := ⟨_, rfl⟩
  obtain ⟨v, hv⟩ : ∃ v, chk k a p n = v := ⟨_, rfl⟩
  rw [hv]
  have HV := Lib.hid hv
  have HQ0 := Lib.hid hq0
  clear hbl hq0 hv
  go_enter Try.func19, Try.ntmps19
  go_upto_region 1 with (fail)
  go_cut [5] from 6 to 21 (fun q wx => q = .bool q0 ∧ wx = W)
  case first =>
    by_cases h1 : (1 : Int) ≤ n
    · have d1 : decide ((1 : Int) ≤ n) = true := decide_eq_true h1
      by_cases h2 : n ≤ 256
      · have d2 : decide (n ≤ 256) = true := decide_eq_true h2
        by_cases h3 : 0 ≤ p
        · have d3 : decide (0 ≤ p) = true := decide_eq_true h3
          by_cases h4 : p ≤ 7
          · have d4 : decide (p ≤ 7) = true := decide_eq_true h4
            have HE := Lib.hid (show q0 = true by rw [← HQ0.out]; exact decide_eq_true ⟨h1, h2, h3, h4⟩)
            go_wp2
            go_meet
            exact ⟨by rw [HE.out], rfl⟩
          · have d4 : decide (p ≤ 7) = false := decide_eq_false h4
            have HE := Lib.hid (show q0 = false by rw [← HQ0.out]; exact decide_eq_false (by omega))
            go_wp2
            go_meet
            exact ⟨by rw [HE.out], rfl⟩
        · have d3 : decide (0 ≤ p) = false := decide_eq_false h3
          have HE := Lib.hid (show q0 = false by rw [← HQ0.out]; exact decide_eq_false (by omega))
          go_wp2
          go_meet
          exact ⟨by rw [HE.out], rfl⟩
      · have d2 : decide (n ≤ 256) = false := decide_eq_false h2
        have HE := Lib.hid (show q0 = false by rw [← HQ0.out]; exact decide_eq_false (by omega))
        go_wp2
        go_meet
        exact ⟨by rw [HE.out], rfl⟩
    · have d1 : decide ((1 : Int) ≤ n) = false := decide_eq_false h1
      have HE := Lib.hid (show q0 = false by rw [← HQ0.out]; exact decide_eq_false (by omega))
      go_wp2
      go_meet
      exact ⟨by rw [HE.out], rfl⟩
  case rest =>
    obtain ⟨rfl, rfl⟩ := hcut
    have key : ∀ b : Bool, argOk k a n = b → v = if (q0 && b) = true then 0 else 2 := fun b hb => by rw [← HV.out]; unfold chk; rw [HQ0.out, hb]
    have HK := Lib.hid key
    clear key
    by_cases k1 : k = 1
    · subst k1
      by_cases c0 : (0 : Int) ≤ a
      · have d0 : decide ((0 : Int) ≤ a) = true := decide_eq_true c0
        by_cases c1 : a < n
        · have d1 : decide (a < n) = true := decide_eq_true c1
          have AB : argOk 1 a n = true := by unfold argOk; rw [if_pos rfl]; exact decide_eq_true (by omega)
          have HE := Lib.hid (HK.out true AB)
          clear AB
          cases q0
          · have HF := Lib.hid (show v = 2 by have := HE.out; simpa using this)
            go_wp2
            go_ret
            exact ⟨by rw [HF.out]; rfl, HB.out⟩
          · have HF := Lib.hid (show v = 0 by have := HE.out; simpa using this)
            go_wp2
            go_ret
            exact ⟨by rw [HF.out]; rfl, HB.out⟩
        · have d1 : decide (a < n) = false := decide_eq_false c1
          have AB : argOk 1 a n = false := by unfold argOk; rw [if_pos rfl]; exact decide_eq_false (by omega)
          have HE := Lib.hid (HK.out false AB)
          clear AB
          cases q0
          · have HF := Lib.hid (show v = 2 by have := HE.out; simpa using this)
            go_wp2
            go_ret
            exact ⟨by rw [HF.out]; rfl, HB.out⟩
          · have HF := Lib.hid (show v = 2 by have := HE.out; simpa using this)
            go_wp2
            go_ret
            exact ⟨by rw [HF.out]; rfl, HB.out⟩
      · have d0 : decide ((0 : Int) ≤ a) = false := decide_eq_false c0
        have AB : argOk 1 a n = false := by unfold argOk; rw [if_pos rfl]; exact decide_eq_false (by omega)
        have HE := Lib.hid (HK.out false AB)
        clear AB
        cases q0
        · have HF := Lib.hid (show v = 2 by have := HE.out; simpa using this)
          go_wp2
          go_ret
          exact ⟨by rw [HF.out]; rfl, HB.out⟩
        · have HF := Lib.hid (show v = 2 by have := HE.out; simpa using this)
          go_wp2
          go_ret
          exact ⟨by rw [HF.out]; rfl, HB.out⟩
    have e1 : (k == 1) = false := by simpa using k1
    by_cases k2 : k = 2
    · subst k2
      by_cases c0 : (1 : Int) ≤ a
      · have d0 : decide ((1 : Int) ≤ a) = true := decide_eq_true c0
        by_cases c1 : a ≤ 64
        · have d1 : decide (a ≤ 64) = true := decide_eq_true c1
          have AB : argOk 2 a n = true := by unfold argOk; rw [if_neg (by decide), if_pos rfl]; exact decide_eq_true (by omega)
          have HE := Lib.hid (HK.out true AB)
          clear AB
          cases q0
          · have HF := Lib.hid (show v = 2 by have := HE.out; simpa using this)
            go_wp2
            go_ret
            exact ⟨by rw [HF.out]; rfl, HB.out⟩
          · have HF := Lib.hid (show v = 0 by have := HE.out; simpa using this)
            go_wp2
            go_ret
            exact ⟨by rw [HF.out]; rfl, HB.out⟩
        · have d1 : decide (a ≤ 64) = false := decide_eq_false c1
          have AB : argOk 2 a n = false := by unfold argOk; rw [if_neg (by decide), if_pos rfl]; exact decide_eq_false (by omega)
          have HE := Lib.hid (HK.out false AB)
          clear AB
          cases q0
          · have HF := Lib.hid (show v = 2 by have := HE.out; simpa using this)
            go_wp2
            go_ret
            exact ⟨by rw [HF.out]; rfl, HB.out⟩
          · have HF := Lib.hid (show v = 2 by have := HE.out; simpa using this)
            go_wp2
            go_ret
            exact ⟨by rw [HF.out]; rfl, HB.out⟩
      · have d0 : decide ((1 : Int) ≤ a) = false := decide_eq_false c0
        have AB : argOk 2 a n = false := by unfold argOk; rw [if_neg (by decide), if_pos rfl]; exact decide_eq_false (by omega)
        have HE := Lib.hid (HK.out false AB)
        clear AB
        cases q0
        · have HF := Lib.hid (show v = 2 by have := HE.out; simpa using this)
          go_wp2
          go_ret
          exact ⟨by rw [HF.out]; rfl, HB.out⟩
        · have HF := Lib.hid (show v = 2 by have := HE.out; simpa using this)
          go_wp2
          go_ret
          exact ⟨by rw [HF.out]; rfl, HB.out⟩
    have e2 : (k == 2) = false := by simpa using k2
    by_cases k3 : k = 3
    · subst k3
      by_cases c0 : a = 0
      · have d0 : (a == 0) = true := by simpa using c0
        have AB : argOk 3 a n = true := by unfold argOk; rw [if_neg (by decide), if_neg (by decide), if_pos rfl]; exact decide_eq_true (by omega)
        have HE := Lib.hid (HK.out true AB)
        clear AB
        cases q0
        · have HF := Lib.hid (show v = 2 by have := HE.out; simpa using this)
          go_wp2
          go_ret
          exact ⟨by rw [HF.out]; rfl, HB.out⟩
        · have HF := Lib.hid (show v = 0 by have := HE.out; simpa using this)
          go_wp2
          go_ret
          exact ⟨by rw [HF.out]; rfl, HB.out⟩
      · have d0 : (a == 0) = false := by simpa using c0
        have AB : argOk 3 a n = false := by unfold argOk; rw [if_neg (by decide), if_neg (by decide), if_pos rfl]; exact decide_eq_false (by omega)
        have HE := Lib.hid (HK.out false AB)
        clear AB
        cases q0
        · have HF := Lib.hid (show v = 2 by have := HE.out; simpa using this)
          go_wp2
          go_ret
          exact ⟨by rw [HF.out]; rfl, HB.out⟩
        · have HF := Lib.hid (show v = 2 by have := HE.out; simpa using this)
          go_wp2
          go_ret
          exact ⟨by rw [HF.out]; rfl, HB.out⟩
    have e3 : (k == 3) = false := by simpa using k3
    by_cases k4 : k = 4
    · subst k4
      by_cases c0 : (0 : Int) ≤ a
      · have d0 : decide ((0 : Int) ≤ a) = true := decide_eq_true c0
        by_cases c1 : a ≤ 4096
        · have d1 : decide (a ≤ 4096) = true := decide_eq_true c1
          have AB : argOk 4 a n = true := by unfold argOk; rw [if_neg (by decide), if_neg (by decide), if_neg (by decide), if_pos rfl]; exact decide_eq_true (by omega)
          have HE := Lib.hid (HK.out true AB)
          clear AB
          cases q0
          · have HF := Lib.hid (show v = 2 by have := HE.out; simpa using this)
            go_wp2
            go_ret
            exact ⟨by rw [HF.out]; rfl, HB.out⟩
          · have HF := Lib.hid (show v = 0 by have := HE.out; simpa using this)
            go_wp2
            go_ret
            exact ⟨by rw [HF.out]; rfl, HB.out⟩
        · have d1 : decide (a ≤ 4096) = false := decide_eq_false c1
          have AB : argOk 4 a n = false := by unfold argOk; rw [if_neg (by decide), if_neg (by decide), if_neg (by decide), if_pos rfl]; exact decide_eq_false (by omega)
          have HE := Lib.hid (HK.out false AB)
          clear AB
          cases q0
          · have HF := Lib.hid (show v = 2 by have := HE.out; simpa using this)
            go_wp2
            go_ret
            exact ⟨by rw [HF.out]; rfl, HB.out⟩
          · have HF := Lib.hid (show v = 2 by have := HE.out; simpa using this)
            go_wp2
            go_ret
            exact ⟨by rw [HF.out]; rfl, HB.out⟩
      · have d0 : decide ((0 : Int) ≤ a) = false := decide_eq_false c0
        have AB : argOk 4 a n = false := by unfold argOk; rw [if_neg (by decide), if_neg (by decide), if_neg (by decide), if_pos rfl]; exact decide_eq_false (by omega)
        have HE := Lib.hid (HK.out false AB)
        clear AB
        cases q0
        · have HF := Lib.hid (show v = 2 by have := HE.out; simpa using this)
          go_wp2
          go_ret
          exact ⟨by rw [HF.out]; rfl, HB.out⟩
        · have HF := Lib.hid (show v = 2 by have := HE.out; simpa using this)
          go_wp2
          go_ret
          exact ⟨by rw [HF.out]; rfl, HB.out⟩
    have e4 : (k == 4) = false := by simpa using k4
    have AB : argOk k a n = false := by unfold argOk; rw [if_neg k1, if_neg k2, if_neg k3, if_neg k4]
    have HE := Lib.hid (HK.out false AB)
    clear AB
    cases q0
    · have HF := Lib.hid (show v = 2 by have := HE.out; simpa using this)
      go_wp2
      go_ret
      exact ⟨by rw [HF.out]; rfl, HB.out⟩
    · have HF := Lib.hid (show v = 2 by have := HE.out; simpa using this)
      go_wp2
      go_ret
      exact ⟨by rw [HF.out]; rfl, HB.out⟩
end Go.Proofs.Ytpmgkmodpneiiaa.E
