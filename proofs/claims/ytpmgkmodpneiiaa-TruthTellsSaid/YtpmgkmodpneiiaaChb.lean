/- Bound; the document's Check and Bound. Conditions: none. -/
import Derived.Test.YtpmgkmodpneiiaaChk
namespace Go.Proofs.Ytpmgkmodpneiiaa.E
open Go.RowKit Go.Sort Go.Shelf
open Go.Proofs.Ytpmgkmodpneiiaa.Ma
set_option linter.unusedVariables false
set_option linter.unusedSimpArgs false
def bnd (k a p n : Int) : Int := if chk k a p n ≠ 0 then 0 else if k = 2 then a else n + 1
theorem chk_zero {k a p n : Int} (h : chk k a p n = 0) : 1 ≤ n ∧ n ≤ 256 ∧ 0 ≤ p ∧ p ≤ 7 := by
  unfold chk at h
  split at h
  · rename_i h2
    rw [Bool.and_eq_true] at h2
    exact of_decide_eq_true h2.1
  · cases h
theorem keep_cell {W W2 : World} {g i : Nat} {v : Value} (h : W.cell? ⟨g, i, none⟩ = some v) (hb : Below W.heap.size W W2) : W2.cell? ⟨g, i, none⟩ = some v := (hb.cell (p := ⟨g, i, none⟩) (by have := World.block_lt_of_cell? W _ h; exact this)).trans h
set_option maxRecDepth 100000 in
theorem bound_at (k a p d n : Int) (w : World) : Calls Try.prog 21 #[.int .i64 n, rq k a p d] w fun e w' => e = .returned (.int .i64 (bnd k a p n)) ∧ Below w.heap.size w w' := by
  obtain ⟨W, hW, hbl, c0, c1, c2, c3⟩ := box4 w k a p d
  have HB := Lib.hid hbl
  have HC := Lib.hid (chk_at k a p d n W)
  obtain ⟨q, hq⟩ : ∃ q, chk k a p n = q := ⟨_, rfl⟩
  obtain ⟨v, hv⟩ : ∃ v, bnd k a p n = v := ⟨_, rfl⟩
  rw [hv]
  rw [hq] at HC
  unfold bnd at hv
  rw [hq] at hv
  have HK := Lib.hid (fun (W2 : World) (hb : Below W.heap.size W W2) => And.intro (keep_cell c0 hb) (keep_cell c1 hb))
  by_cases h0 : q = 0
  · subst h0
    have hn := chk_zero hq
    rw [if_neg (by decide)] at hv
    by_cases hk : k = 2
    · subst hk
      rw [if_pos rfl] at hv
      subst hv
      clear hbl hq hn
      go_enter Try.func21, Try.ntmps21
      go_wp2_with (go_at_call 19; refine HC.out.mono ?_; rintro e w2 ⟨rfl, hb2⟩; have B2 := Lib.hid hb2; obtain ⟨z0, z1⟩ := HK.out w2 hb2; clear hb2)
      go_ret
      exact ⟨rfl, HB.out.trans (B2.out.mono HB.out.size)⟩
    · rw [if_neg hk] at hv
      have e2 : (k == 2) = false := by simpa using hk
      have hn1 : n ≤ 256 := hn.2.1
      have hn2 : 1 ≤ n := hn.1
      have HV := Lib.hid hv
      clear hbl hq hn hv hk
      go_enter Try.func21, Try.ntmps21
      go_wp2_with (go_at_call 19; refine HC.out.mono ?_; rintro e w2 ⟨rfl, hb2⟩; have B2 := Lib.hid hb2; obtain ⟨z0, z1⟩ := HK.out w2 hb2; clear hb2)
      go_ret
      exact ⟨by rw [← HV.out]; rfl, HB.out.trans (B2.out.mono HB.out.size)⟩
  · rw [if_pos h0] at hv
    have e0 : (q != 0) = true := by simpa using h0
    subst hv
    clear hbl hq h0
    go_enter Try.func21, Try.ntmps21
    go_wp2_with (go_at_call 19; refine HC.out.mono ?_; rintro e w2 ⟨rfl, hb2⟩; have B2 := Lib.hid hb2; clear hb2)
    go_ret
    exact ⟨rfl, HB.out.trans (B2.out.mono HB.out.size)⟩
def lst (k : Int) : Int := if k = 2 then 1 else 0
def mst (k n : Int) : Int := if k = 1 then RowKit.wrap64 (n - 1) else if k = 2 then 64 else if k = 3 then 0 else if k = 4 then 4096 else -1
theorem chk_ref (k a p n : Int) : chk k a p n = if (n < 1 ∨ 256 < n ∨ p < 0 ∨ 7 < p ∨ a < lst k ∨ mst k n < a) then 2 else 0 := by
  unfold chk okN argOk lst mst
  by_cases hn : 1 ≤ n ∧ n ≤ 256
  · have hw : RowKit.wrap64 (n - 1) = n - 1 := IntWalk.wrap64_in _ ⟨by omega, by omega⟩
    rw [hw]
    by_cases k1 : k = 1
    · subst k1; simp; split <;> split <;> omega
    by_cases k2 : k = 2
    · subst k2; simp; split <;> split <;> omega
    by_cases k3 : k = 3
    · subst k3; simp; split <;> split <;> omega
    by_cases k4 : k = 4
    · subst k4; simp; split <;> split <;> omega
    simp [k1, k2, k3, k4]
    omega
  · have : decide (1 ≤ n ∧ n ≤ 256 ∧ 0 ≤ p ∧ p ≤ 7) = false := decide_eq_false (by omega)
    rw [this, Bool.false_and, if_neg (by decide), if_pos (by omega)]
end Go.Proofs.Ytpmgkmodpneiiaa.E
