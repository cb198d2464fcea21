/- What the laws say of a file system's files, plain. Conditions: none. -/
import Derived.Test.YtnpdnnaemfdinaaAll
namespace Go.Proofs.Ytnpdnnaemfdinaa.F
open Go.RowKit Go.Maps Go.Sort Go.Shelf
open Go.Proofs.Ytnpdnnaemfdinaa.Ma
set_option linter.unusedVariables false
set_option linter.unusedSimpArgs false
section
variable {X : Nat → Prop} {w w' : World} {b bm : Nat} {room left : Int} {D : List De}
theorem FsX.rise (h : FsX X w b bm room left D) : D.Pairwise fun p q => nm p.1 < nm q.1 := by
  obtain ⟨L, h1, _, rfl⟩ := h.ex
  unfold dn
  rw [List.pairwise_map]
  exact h1.rise
theorem FsX.names (h : FsX X w b bm room left D) : ∀ p ∈ D, nameOk p.1 = true := by
  obtain ⟨L, h1, _, rfl⟩ := h.ex
  intro p hp
  obtain ⟨q, hq, rfl⟩ := List.mem_map.1 hp
  exact h1.names q hq
theorem FsX.some (h : FsX X w b bm room left D) : ∀ p ∈ D, p.2 ≠ [] := by
  obtain ⟨L, h1, _, rfl⟩ := h.ex
  intro p hp
  obtain ⟨q, hq, rfl⟩ := List.mem_map.1 hp
  exact (h1.rows q hq).2
theorem FsX.full (h : FsX X w b bm room left D) : ∀ p ∈ D, ∀ s ∈ p.2, s.size = 128 := by
  obtain ⟨L, h1, _, rfl⟩ := h.ex
  intro p hp
  obtain ⟨q, hq, rfl⟩ := List.mem_map.1 hp
  exact h1.full q hq
theorem FsX.many (h : FsX X w b bm room left D) : D.length ≤ 4096 := by
  obtain ⟨L, h1, _, rfl⟩ := h.ex
  have := h1.count
  simpa [dn] using this
end
theorem lookD_at {D : List De} (h : D.Pairwise fun p q => nm p.1 < nm q.1) {j : Nat} {p : De} (hp : D[j]? = some p) : lookD D p.1 = p.2 := by
  unfold lookD
  have hj := List.getElem?_eq_some_iff.1 hp
  have : D.find? (fun q => nm q.1 == nm p.1) = some p := by
    rw [List.find?_eq_some_iff_getElem]
    refine ⟨by simp, j, hj.1, hj.2, fun k hk => ?_⟩
    have := List.pairwise_iff_getElem.1 h k j (by have := hj.1; omega) hj.1 hk
    rw [hj.2] at this
    simp only [Bool.not_eq_true', beq_eq_false_iff_ne, ne_eq]
    intro e
    rw [e] at this
    exact List.lt_irrefl _ this
  rw [this]
theorem refused {room left : Int} {D : List De} {a : Ac} (h : (doneF room left D a).2.1 ≠ 0) : (doneF room left D a).2.2.2 = D := by
  revert h
  unfold doneF writeF putF removeF flipF failF
  repeat' split
  all_goals first | (intro h; rfl) | (intro h; exact absurd rfl h)
theorem find_none {D : List De} {s : ByteArray} (h : ∀ p ∈ D, nm p.1 ≠ nm s) : D.find? (fun p => nm p.1 == nm s) = none := by
  rw [List.find?_eq_none]
  intro p hp
  simpa using h p hp
theorem find_ins {s : ByteArray} {P : List ByteArray} : ∀ {D : List De}, (∀ p ∈ D, nm p.1 ≠ nm s) → (insD (s, P) D).find? (fun p => nm p.1 == nm s) = some (s, P)
  | [], _ => by simp [insD]
  | y :: r, h => by
    unfold insD
    split
    · rw [List.find?_cons_of_pos (by simp)]
    · rw [List.find?_cons_of_neg (by simpa using h y List.mem_cons_self)]
      exact find_ins (fun p hp => h p (List.mem_cons_of_mem _ hp))
theorem del_ne {D : List De} {s : ByteArray} : ∀ p ∈ delD s D, nm p.1 ≠ nm s := by
  intro p hp
  unfold delD at hp
  simpa using (List.mem_filter.1 hp).2
theorem look_set (D : List De) (s : ByteArray) (P : List ByteArray) : lookD (setD s P D) s = P := by
  unfold setD
  by_cases h : P = []
  · rw [if_pos h]
    unfold lookD
    rw [find_none del_ne, h]
  · rw [if_neg h]
    unfold lookD
    rw [find_ins del_ne]
theorem look_del (D : List De) (s : ByteArray) : lookD (delD s D) s = [] := by
  unfold lookD
  rw [find_none del_ne]
theorem all_del (s : ByteArray) : ∀ (D : List De), allF (delD s D) s = allF D s
  | [] => rfl
  | y :: r => by
    unfold delD
    by_cases h : nm y.1 = nm s
    · rw [List.filter_cons_of_neg (by simp [h])]
      have h2 := all_del s r
      unfold delD allF at h2
      unfold allF
      rw [List.flatMap_cons, if_pos (nm_inj h), List.nil_append]
      exact h2
    · rw [List.filter_cons_of_pos (by rw [Bool.not_eq_true', beq_eq_false_iff_ne]; exact h)]
      have h2 := all_del s r
      unfold delD allF at h2
      unfold allF
      rw [List.flatMap_cons, List.flatMap_cons, h2]
theorem all_ins (s : ByteArray) (P : List ByteArray) : ∀ (D : List De), allF (insD (s, P) D) s = allF D s
  | [] => by simp [insD, allF]
  | y :: r => by
    unfold insD
    split
    · unfold allF
      rw [List.flatMap_cons, if_pos rfl, List.nil_append]
    · have h2 := all_ins s P r
      unfold allF at h2
      unfold allF
      rw [List.flatMap_cons, List.flatMap_cons, h2]
theorem all_set (s : ByteArray) (P : List ByteArray) (D : List De) : allF (setD s P D) s = allF D s := by
  unfold setD
  split
  · exact all_del s D
  · rw [all_ins, all_del]
theorem all_pages (s : ByteArray) : ∀ {D : List De}, (∀ p ∈ D, nm p.1 ≠ nm s) → (allF D s).length = 2 * pagesD D
  | [], _ => rfl
  | y :: r, h => by
    have h2 := all_pages s (fun p hp => h p (List.mem_cons_of_mem _ hp) : ∀ p ∈ r, nm p.1 ≠ nm s)
    unfold allF at h2
    unfold allF
    rw [List.flatMap_cons, List.length_append, h2, if_neg (fun e => h y List.mem_cons_self (by rw [e])), pairs_len]
    simp [pagesD]
    omega
theorem write_cases (room : Int) (D : List De) (s : ByteArray) (P : List ByteArray) : (writeF room D s P = (2, D)) ∨ (writeF room D s P = (61, D)) ∨ (writeF room D s P = (0, setD s P D) ∧ nameOk s = true) := by
  unfold writeF
  split
  · exact .inl rfl
  · rename_i h
    split
    · exact .inr (.inl rfl)
    · refine .inr (.inr ⟨rfl, ?_⟩)
      simp at h
      exact h.1
theorem remove_all {D : List De} (hne : ∀ p ∈ D, p.2 ≠ []) (s : ByteArray) : allF (removeF D s).2 s = allF D s ∧ lookD (removeF D s).2 s = [] ∧ (allF D s).length = 2 * pagesD (removeF D s).2 := by
  unfold removeF
  split
  · rename_i h
    refine ⟨rfl, h, all_pages s ?_⟩
    intro p hp e
    unfold lookD at h
    cases hf : D.find? (fun p => nm p.1 == nm s) with
    | none => exact absurd e (by simpa using List.find?_eq_none.1 hf p hp)
    | some q =>
      rw [hf] at h
      exact hne q (List.mem_of_find?_eq_some hf) h
  · exact ⟨all_del s D, look_del D s, by rw [← all_del]; exact all_pages s del_ne⟩
end Go.Proofs.Ytnpdnnaemfdinaa.F
