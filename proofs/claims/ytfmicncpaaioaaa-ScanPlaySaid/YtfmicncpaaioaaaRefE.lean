/- The document's scan does not take one who is there, nor a fifth. Conditions: those that each theorem names. -/
import Derived.Test.YtfmicncpaaioaaaRefD
namespace Go.Proofs.Ytfmicncpaaioaaa.Sc
open Go.RowKit Go.Maps Go.Sort Go.Shelf
open Go.Proofs.Ytfmicncpaaioaaa.Ma
set_option linter.unusedVariables false
set_option linter.unusedSimpArgs false
theorem ins_split {k : Int} {v : Bool} {L : List Ent} : ∀ {j : Nat}, (∀ q ∈ L.take j, q.1 < k) → (∀ p, L[j]? = some p → k < p.1) → ins k v L = L.take j ++ (k, v) :: L.drop j := by
  induction L with
  | nil => intro j _ _; cases j <;> rfl
  | cons y r ih =>
    intro j h1 h2
    cases j with
    | zero =>
      have := h2 y rfl
      simp [ins, this]
    | succ j =>
      have hy : y.1 < k := h1 y (by simp)
      simp only [List.take_succ_cons, List.drop_succ_cons, List.cons_append]
      unfold ins
      rw [if_neg (by omega), ih (j := j) (fun q hq => h1 q (by simp [hq])) (fun p hp => h2 p (by simpa using hp))]
theorem rattach_bad (B rb : Nat) (n a id : Int) (L : List Ent) (v : Value) (w : World) (h : RefAt B w rb n a L v) (hr : Rising L) (hlen : L.length ≤ 4) (hbad : Ma.has L id = true ∨ L.length = 4) :
    Calls Try.prog 12 #[.pointer (some ⟨rb, 0, none⟩), .int .i64 id] w fun e w' => e = .returned (.int .i64 (attF L id).1) ∧ (attF L id).2 = L ∧ w = w' := by
  have hplc := place_at B rb n a id L v w h
  obtain ⟨A, c, rfl, hc, hcm, _, _⟩ := row_cells h.2
  have c2 := h.c2
  cases hh : Ma.has L id
  · have h4 : L.length = 4 := by rcases hbad with e | e; rw [hh] at e; cases e; exact e
    rw [show attF L id = (230, L) by simp [attF, hh, h4]]
    rw [show plc L id = -1 by simp [plc, hh]] at hplc
    have HP := Lib.hid hplc
    have e4 : (4 : Int) ≤ (L.length : Int) := by omega
    clear h hh hplc hbad h4
    go_enter Try.func12, Try.ntmps12
    go_wp2_with (go_at_call 25; refine HP.out.mono ?_; rintro e w' ⟨rfl, rfl⟩)
    go_ret
    exact ⟨rfl, trivial, rfl⟩
  · rw [show attF L id = (2, L) by simp [attF, hh]]
    obtain ⟨j, y, _, hp, _⟩ := has_place hr hh
    rw [hp] at hplc
    have HP := Lib.hid hplc
    have e4 : (0 : Int) ≤ (j : Int) := by omega
    clear h hh hplc hbad hp
    go_enter Try.func12, Try.ntmps12
    go_wp2_with (go_at_call 25; refine HP.out.mono ?_; rintro e w' ⟨rfl, rfl⟩)
    go_ret
    exact ⟨rfl, trivial, rfl⟩
end Go.Proofs.Ytfmicncpaaioaaa.Sc
