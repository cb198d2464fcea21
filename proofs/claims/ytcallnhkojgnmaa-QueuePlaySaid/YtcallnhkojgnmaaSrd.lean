/- QueueSorted: plain lemmas on the order. Conditions: those that each theorem names. -/
import Derived.Test.YtcallnhkojgnmaaEqs
import Derived.Test.YtcallnhkojgnmaaFull
namespace Go.Proofs.Ytcallnhkojgnmaa.Q
open Go.RowKit Go.Sort Go.Shelf
open Go.Proofs.Ytcallnhkojgnmaa.Ma
set_option linter.unusedVariables false
set_option linter.unusedSimpArgs false
theorem minOf_mem : ∀ {L : List It}, L ≠ [] → minOf L ∈ L
  | [], h => absurd rfl h
  | x :: r, _ => by
    show r.foldl (fun m y => if cf y m < 0 then y else m) x ∈ x :: r
    have key : ∀ (r : List It) (x : It), r.foldl (fun m y => if cf y m < 0 then y else m) x ∈ x :: r := by
      intro r
      induction r with
      | nil => intro x; simp
      | cons y r ih =>
        intro x
        rw [List.foldl_cons]
        split
        · have := ih y
          rcases List.mem_cons.1 this with h | h
          · rw [h]; simp
          · simp [h]
        · have := ih x
          rcases List.mem_cons.1 this with h | h
          · rw [h]; simp
          · simp [h]
    exact key r x
theorem ahead_trans {x y z : It} (h1 : ¬ Ahead y x) (h2 : ¬ Ahead z y) : ¬ Ahead z x := by unfold Ahead at *; omega
theorem minOf_least : ∀ {L : List It}, ∀ y ∈ L, ¬ Ahead y (minOf L)
  | [], y, hy => by cases hy
  | x :: r, y, hy => by
    have key : ∀ (r : List It) (x : It), ¬ Ahead x (r.foldl (fun m y => if cf y m < 0 then y else m) x) ∧ ∀ y ∈ r, ¬ Ahead y (r.foldl (fun m y => if cf y m < 0 then y else m) x) := by
      intro r
      induction r with
      | nil => intro x; exact ⟨by simp only [List.foldl_nil]; unfold Ahead; omega, fun y hy => by cases hy⟩
      | cons z r ih =>
        intro x
        rw [List.foldl_cons]
        by_cases hc : cf z x < 0
        · rw [if_pos hc]
          obtain ⟨h1, h2⟩ := ih z
          have hz := (cf_neg z x).1 hc
          refine ⟨fun e => h1 ?_, fun y hy => ?_⟩
          · unfold Ahead at *; omega
          · rcases List.mem_cons.1 hy with rfl | hy
            · exact h1
            · exact h2 y hy
        · rw [if_neg hc]
          obtain ⟨h1, h2⟩ := ih x
          have hz := mt (cf_neg z x).2 hc
          refine ⟨h1, fun y hy => ?_⟩
          rcases List.mem_cons.1 hy with rfl | hy
          · exact fun e => by unfold Ahead at *; omega
          · exact h2 y hy
    obtain ⟨h1, h2⟩ := key r x
    rcases List.mem_cons.1 hy with rfl | hy
    · exact h1
    · exact h2 y hy
theorem same_of_ids {L : List It} (hd : (L.map Prod.fst).Nodup) {x y : It} (hx : x ∈ L) (hy : y ∈ L) (he : x.1 = y.1) : x = y := by
  induction L with
  | nil => cases hx
  | cons z r ih =>
    simp only [List.map_cons, List.nodup_cons] at hd
    rcases List.mem_cons.1 hx with h1 | h1 <;> rcases List.mem_cons.1 hy with h2 | h2
    · rw [h1, h2]
    · exact absurd (List.mem_map.2 ⟨y, h2, by rw [← he, h1]⟩) hd.1
    · exact absurd (List.mem_map.2 ⟨x, h1, by rw [he, h2]⟩) hd.1
    · exact ih hd.2 h1 h2
theorem minOf_head {L M : List It} (hp : M.Perm L) (ho : Order M) (hd : (L.map Prod.fst).Nodup) {x : It} (hx : M[0]? = some x) : minOf L = x := by
  have hxM : x ∈ M := List.mem_of_getElem? hx
  have hL : L ≠ [] := by
    rintro rfl
    have := hp.eq_nil
    subst this
    cases hxM
  have hm := minOf_mem hL
  have h1 := minOf_least x (hp.mem_iff.1 hxM)
  have h2 : ¬ Ahead (minOf L) x := by
    have hmM := hp.mem_iff.2 hm
    cases M with
    | nil => cases hxM
    | cons z r =>
      simp at hx
      subst hx
      rcases List.mem_cons.1 hmM with h | h
      · rw [h]; unfold Ahead; omega
      · exact (List.pairwise_cons.1 ho).1 _ h
  exact same_of_ids hd hm (hp.mem_iff.1 hxM) (by unfold Ahead at h1 h2; omega)
theorem erase_perm {L : List It} {j : Nat} {x : It} (h : L[j]? = some x) : (x :: L.eraseIdx j).Perm L := by
  obtain ⟨hj, e⟩ := List.getElem?_eq_some_iff.1 h
  have e2 : L = L.take j ++ x :: L.drop (j + 1) := by rw [← e, List.getElem_cons_drop, List.take_append_drop]
  rw [List.eraseIdx_eq_take_drop_succ]
  refine List.Perm.trans List.perm_middle.symm ?_
  rw [← e2]
theorem rem_at_ord {L M : List It} (hp : M.Perm L) (ho : Order M) (hd : (L.map Prod.fst).Nodup) {k : Nat} {x : It} (hx : M[k]? = some x) :
    ∃ L', remF L x.1 = (0, L') ∧ (M.eraseIdx k).Perm L' ∧ Order (M.eraseIdx k) := by
  have hxM : x ∈ M := List.mem_of_getElem? hx
  have hh : hasQ L x.1 = true := hasQ_iff.2 ⟨x, hp.mem_iff.1 hxM, rfl⟩
  obtain ⟨j, p, hj, hpe, _, hplc⟩ := plc_in hh
  have hpx : p = x := same_of_ids hd (List.mem_of_getElem? hj) (hp.mem_iff.1 hxM) hpe
  subst hpx
  refine ⟨_, by unfold remF; rw [if_pos hh], ?_, ho.sublist (List.eraseIdx_sublist _ _)⟩
  have hidx : (L.findIdx fun q => q.1 == p.1) = j := by
    have := plc_idx hh
    rw [hplc] at this
    omega
  rw [hidx]
  exact (((erase_perm hx).trans hp).trans (erase_perm hj).symm).cons_inv
theorem ord_next {M : List It} (ho : Order M) (hd : (M.map Prod.fst).Nodup) {i : Nat} {x y : It} (hx : M[i]? = some x) (hy : M[i + 1]? = some y) : rankZ y < rankZ x ∨ (rankZ x = rankZ y ∧ x.1 < y.1) := by
  obtain ⟨h1, e1⟩ := List.getElem?_eq_some_iff.1 hx
  obtain ⟨h2, e2⟩ := List.getElem?_eq_some_iff.1 hy
  have h3 := List.pairwise_iff_getElem.1 ho i (i + 1) h1 h2 (by omega)
  have h4 := List.pairwise_iff_getElem.1 hd i (i + 1) (by simpa using h1) (by simpa using h2) (by omega)
  simp only [List.getElem_map] at h4
  rw [e1, e2] at h3 h4
  unfold Ahead at h3
  have : x.1 ≠ y.1 := h4
  omega
end Go.Proofs.Ytcallnhkojgnmaa.Q
