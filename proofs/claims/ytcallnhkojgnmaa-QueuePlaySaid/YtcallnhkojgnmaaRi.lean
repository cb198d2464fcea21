/- The document's order: each item set in behind those ahead of it. Conditions: those that each theorem names. -/
import Derived.Shelf.SlSortCmp.QuietGrown
import Derived.Test.YtcallnhkojgnmaaSm
namespace Go.Proofs.Ytcallnhkojgnmaa.Q
open Go.RowKit Go.Sort Go.Shelf
open Go.Proofs.Ytcallnhkojgnmaa.Ma
set_option linter.unusedVariables false
set_option linter.unusedSimpArgs false
instance (x y : It) : Decidable (Ahead x y) := by unfold Ahead; infer_instance
def setIn (M : List It) (p : Nat) (x : It) : List It := M.take p ++ x :: M.drop p
theorem setIn_perm (M : List It) (p : Nat) (x : It) : (setIn M p x).Perm (x :: M) := by
  unfold setIn
  refine List.perm_middle.trans ?_
  rw [List.take_append_drop]
theorem setIn_len (M : List It) {p : Nat} (h : p ≤ M.length) (x : It) : (setIn M p x).length = 0 + p + 1 + (M.length - p) := by
  unfold setIn
  rw [List.length_append, List.length_cons, List.length_take, List.length_drop]
  omega
theorem setIn_order {M : List It} {p : Nat} {x : It} (ho : Order M) (h1 : ∀ q ∈ M.take p, Ahead q x) (h2 : ∀ q, M[p]? = some q → ¬ Ahead q x) : Order (setIn M p x) := by
  unfold setIn Order
  have hT : Order (M.take p) := ho.sublist (List.take_sublist _ _)
  have hD : Order (M.drop p) := ho.sublist (List.drop_sublist _ _)
  have hxD : ∀ b ∈ M.drop p, ¬ Ahead b x := by
    intro b hb
    cases hd : M.drop p with
    | nil => rw [hd] at hb; cases hb
    | cons z r =>
      have hz : M[p]? = some z := by
        have := congrArg (fun l => l[0]?) hd
        simpa [List.getElem?_drop] using this
      have hzx := h2 z hz
      rw [hd] at hb
      rcases List.mem_cons.1 hb with rfl | hb
      · exact hzx
      · rw [hd] at hD
        exact ahead_trans hzx ((List.pairwise_cons.1 hD).1 b hb)
  rw [List.pairwise_append]
  refine ⟨hT, List.pairwise_cons.2 ⟨hxD, hD⟩, fun a ha b hb => ?_⟩
  have hax := h1 a ha
  rcases List.mem_cons.1 hb with rfl | hb
  · unfold Ahead at *; omega
  · have := hxD b hb
    unfold Ahead at *
    omega
theorem setIn_cells (M : List It) (p : Nat) (x1 x2 x3 x4 : Int) : cellsK enc4 (setIn M p (x1, x2, x3, x4)) = (([] ++ cellsK enc4 (M.take p)) ++ [.int .i64 x1, .int .i64 x2, .int .i64 x3, .int .i64 x4]) ++ cellsK enc4 (M.drop p) := by
  unfold setIn
  rw [cellsK_append, show (x1, x2, x3, x4) :: M.drop p = [(x1, x2, x3, x4)] ++ M.drop p from rfl, cellsK_append, cellsK_one]
  simp [enc4]
theorem rank_gr2 {x1 x2 x3 x4 r : Int} (hv : rankZ (x1, x2, x3, x4) = r) (w : World) (n : Nat) (os : Array Obj) : Calls Try.prog 22 #[.agg #[.int .i64 x1, .int .i64 x2, .int .i64 x3, .int .i64 x4]] (grow (w.drewN n) os) fun e w'' => e = .returned (.int .i64 r) ∧ ∃ p : GrownBy, w'' = grow (w.drewN p.n) p.os := by
  subst hv
  exact Calls.grown_of ((rank_ref (x1, x2, x3, x4) _).mono fun _ _ ⟨he, hw⟩ => ⟨he, 0, #[.cells (enc4 (x1, x2, x3, x4)).toArray 37 (0, 0)], by rw [hw, alloc_eq_grow]; rfl⟩)
end Go.Proofs.Ytcallnhkojgnmaa.Q
