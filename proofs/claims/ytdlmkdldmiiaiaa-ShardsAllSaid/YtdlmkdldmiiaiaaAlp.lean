/- ShardsAll's plain law: the parts' edges, one behind the other, are the list. -/
import Derived.Test.YtdlmkdldmiiaiaaEdg
namespace Go.Proofs.Ytdlmkdldmiiaiaa.E
open Go.RowKit Go.Sort Go.Shelf
open Go.Proofs.Ytdlmkdldmiiaiaa.Ma Go.Proofs.Ytdlmkdldmiiaiaa.By Go.Proofs.Ytdlmkdldmiiaiaa.Enc
set_option linter.unusedVariables false
set_option linter.unusedSimpArgs false
/-- The edges that begin ahead of a vertex. -/
def ahead (M : List Ed) (c : Int) : List Ed := M.filter fun x => decide (x.1 < c)
theorem ahead_none {M : List Ed} {c : Int} (h : ∀ x ∈ M, c ≤ x.1) : ahead M c = [] := by
  unfold ahead
  rw [List.filter_eq_nil_iff]
  intro x hx
  have := h x hx
  simp
  omega
theorem ahead_step (c : Int) : ∀ M : List Ed, M.Pairwise D.Ahead → ahead M c ++ (rowsOf M c).map (fun y => (c, y)) = ahead M (c + 1)
  | [], _ => rfl
  | (a, b) :: r, h => by
    rw [List.pairwise_cons] at h
    have ih := ahead_step c r h.2
    have hr : ∀ x ∈ r, a ≤ x.1 := fun x hx => by have := h.1 x hx; unfold D.Ahead at this; dsimp only at this; omega
    rcases Int.lt_trichotomy a c with hac | hac | hac
    · have e1 : ahead ((a, b) :: r) c = (a, b) :: ahead r c := by unfold ahead; rw [List.filter_cons_of_pos (by simpa using hac)]
      have e2 : ahead ((a, b) :: r) (c + 1) = (a, b) :: ahead r (c + 1) := by unfold ahead; rw [List.filter_cons_of_pos (by simp; omega)]
      have e3 : rowsOf ((a, b) :: r) c = rowsOf r c := by unfold rowsOf; rw [List.filter_cons_of_neg (by simp; omega)]
      rw [e1, e2, e3, List.cons_append, ih]
    · subst hac
      have e0 : ahead r a = [] := ahead_none hr
      have e1 : ahead ((a, b) :: r) a = [] := by unfold ahead; rw [List.filter_cons_of_neg (by simp)]; exact e0
      have e2 : ahead ((a, b) :: r) (a + 1) = (a, b) :: ahead r (a + 1) := by unfold ahead; rw [List.filter_cons_of_pos (by simp; omega)]
      have e3 : rowsOf ((a, b) :: r) a = b :: rowsOf r a := by unfold rowsOf; rw [List.filter_cons_of_pos (by simp)]; rfl
      rw [e0, List.nil_append] at ih
      rw [e1, e2, e3, List.nil_append, List.map_cons, ih]
    · have e1 : ahead ((a, b) :: r) c = ahead r c := by unfold ahead; rw [List.filter_cons_of_neg (by simp; omega)]
      have e2 : ahead ((a, b) :: r) (c + 1) = ahead r (c + 1) := by unfold ahead; rw [List.filter_cons_of_neg (by simp; omega)]
      have e3 : rowsOf ((a, b) :: r) c = rowsOf r c := by unfold rowsOf; rw [List.filter_cons_of_neg (by simp; omega)]
      rw [e1, e2, e3, ih]
theorem ahead_part {M : List Ed} (h : M.Pairwise D.Ahead) (lo : Int) : ∀ n : Nat, ahead M lo ++ edgesO lo (gridOf lo n M) = ahead M (lo + (n : Int))
  | 0 => by
    rw [show gridOf lo 0 M = [] from rfl, edgesO, List.append_nil]
    congr 1
    omega
  | n + 1 => by
    rw [grid_succ, edgesO_snoc, grid_len, ← List.append_assoc, ahead_part h lo n, ahead_step _ M h]
    congr 1
    push_cast
    omega
theorem ahead_all {M : List Ed} {c : Int} (h : ∀ x ∈ M, x.1 < c) : ahead M c = M := by
  unfold ahead
  rw [List.filter_eq_self]
  intro x hx
  simpa using h x hx
theorem edges_in {lo : Int} : ∀ {O : List (List Int)} {x : Ed}, x ∈ edgesO lo O → lo ≤ x.1 ∧ x.1 < lo + (O.length : Int) := by
  intro O
  induction O generalizing lo with
  | nil => intro x hx; cases hx
  | cons L r ih =>
    intro x hx
    rw [edgesO, List.mem_append] at hx
    rw [List.length_cons]
    rcases hx with hx | hx
    · obtain ⟨y, _, rfl⟩ := List.mem_map.1 hx
      dsimp only
      omega
    · have := ih hx
      omega
theorem ahead_len (M : List Ed) (c : Int) : (ahead M c).length ≤ M.length := List.length_filter_le _ _
end Go.Proofs.Ytdlmkdldmiiaiaa.E
