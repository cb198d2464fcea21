/- The graph of edges: its rows. Plain. Conditions: those that each theorem names. -/
import Derived.Test.YtpmgkmodpneiiaaLab
namespace Go.Proofs.Ytpmgkmodpneiiaa.E
set_option linter.unusedVariables false
set_option linter.unusedSimpArgs false
def addAt (R : List (List Int)) (i : Nat) (x : Int) : List (List Int) := R.set i (R.getD i [] ++ [x])
def ofOut (n : Nat) (L : List Ed) : List (List Int) := L.foldl (fun R e => addAt R e.1.toNat e.2) (List.replicate n [])
def ofAll (n : Nat) (L : List Ed) : List (List Int) := L.foldl (fun R e => addAt (addAt R e.1.toNat e.2) e.2.toNat e.1) (List.replicate n [])
def rowO (L : List Ed) (u : Nat) : List Int := (L.filter fun e => e.1 == (u : Int)).map (·.2)
def oneA (u : Nat) (e : Ed) : List Int := (if e.1 = (u : Int) then [e.2] else []) ++ (if e.2 = (u : Int) then [e.1] else [])
def rowA (L : List Ed) (u : Nat) : List Int := L.flatMap (oneA u)
theorem addAt_len (R : List (List Int)) (i : Nat) (x : Int) : (addAt R i x).length = R.length := by unfold addAt; rw [List.length_set]
theorem addAt_row {R : List (List Int)} {i : Nat} {x : Int} (hi : i < R.length) (u : Nat) : (addAt R i x).getD u [] = R.getD u [] ++ (if u = i then [x] else []) := by
  unfold addAt
  by_cases e : u = i
  · subst e
    simp [List.getD, hi]
  · rw [if_neg e, List.append_nil, List.getD_eq_getElem?_getD, List.getElem?_set_ne (fun q => e q.symm), ← List.getD_eq_getElem?_getD]
theorem rep_row (n u : Nat) : (List.replicate n ([] : List Int)).getD u [] = [] := by
  by_cases h : u < n <;> simp [List.getD, h]
theorem ofOut_row {n : Nat} {L : List Ed} (hL : Edges n L) : (ofOut n L).length = n ∧ ∀ u, (ofOut n L).getD u [] = rowO L u := by
  refine fold_inv0 (fun done R => R.length = n ∧ ∀ u, R.getD u [] = rowO done u) L (List.replicate n []) ⟨by simp, fun u => by rw [rep_row]; rfl⟩ (fun done R e h he => ?_)
  obtain ⟨e1, e2, e3, e4⟩ := hL e he
  refine ⟨by rw [addAt_len]; exact h.1, fun u => ?_⟩
  rw [addAt_row (by rw [h.1]; omega), h.2]
  unfold rowO
  rw [List.filter_append, List.map_append]
  congr 1
  by_cases c : u = e.1.toNat
  · rw [if_pos c, List.filter_cons_of_pos (by simp; omega)]; rfl
  · rw [if_neg c, List.filter_cons_of_neg (by simp; omega)]; rfl
theorem ofAll_row {n : Nat} {L : List Ed} (hL : Edges n L) : (ofAll n L).length = n ∧ ∀ u, (ofAll n L).getD u [] = rowA L u := by
  refine fold_inv0 (fun done R => R.length = n ∧ ∀ u, R.getD u [] = rowA done u) L (List.replicate n []) ⟨by simp, fun u => by rw [rep_row]; rfl⟩ (fun done R e h he => ?_)
  obtain ⟨e1, e2, e3, e4⟩ := hL e he
  refine ⟨by rw [addAt_len, addAt_len]; exact h.1, fun u => ?_⟩
  rw [addAt_row (by rw [addAt_len, h.1]; omega), addAt_row (by rw [h.1]; omega), h.2]
  unfold rowA
  rw [List.flatMap_append, List.append_assoc]
  congr 1
  have : List.flatMap (oneA u) [e] = oneA u e := by simp
  rw [this]
  unfold oneA
  congr 1
  · by_cases c : u = e.1.toNat
    · rw [if_pos c, if_pos (by omega)]
    · rw [if_neg c, if_neg (by omega)]
  · by_cases c : u = e.2.toNat
    · rw [if_pos c, if_pos (by omega)]
    · rw [if_neg c, if_neg (by omega)]
theorem leads_out {n : Nat} {L : List Ed} (hL : Edges n L) : Leads (ofOut n L) = LeadsE L := by
  funext u v
  unfold Leads LeadsE
  rw [(ofOut_row hL).2]
  unfold rowO
  simp only [List.mem_map, List.mem_filter, eq_iff_iff]
  constructor
  · rintro ⟨⟨x, y⟩, ⟨h1, h2⟩, h3⟩
    simp at h2
    dsimp only at h3
    subst h2 h3
    exact h1
  · intro h
    exact ⟨_, ⟨h, by simp⟩, rfl⟩
theorem leads_all {n : Nat} {L : List Ed} (hL : Edges n L) : Leads (ofAll n L) = Both L := by
  funext u v
  unfold Leads Both LeadsE
  rw [(ofAll_row hL).2]
  unfold rowA oneA
  simp only [List.mem_flatMap, eq_iff_iff, List.mem_append]
  constructor
  · rintro ⟨⟨x, y⟩, h1, h2⟩
    dsimp only at h2
    rcases h2 with h2 | h2
    · split at h2
      · rename_i e
        subst e
        rw [List.mem_singleton.1 h2]
        exact .inl h1
      · cases h2
    · split at h2
      · rename_i e
        subst e
        rw [List.mem_singleton.1 h2]
        exact .inr h1
      · cases h2
  · rintro (h | h)
    · exact ⟨_, h, .inl (by simp)⟩
    · exact ⟨_, h, .inr (by simp)⟩
theorem getD_mem {R : List (List Int)} {r : List Int} (h : r ∈ R) : ∃ u, u < R.length ∧ R.getD u [] = r := by
  obtain ⟨u, hu, rfl⟩ := List.mem_iff_getElem.1 h
  exact ⟨u, hu, by simp [List.getD, hu]⟩
theorem rows_out {n : Nat} {L : List Ed} (hL : Edges n L) : Rows (ofOut n L) := fun r hr v hv => by
  obtain ⟨u, hu, rfl⟩ := getD_mem hr
  rw [(ofOut_row hL).2] at hv
  unfold rowO at hv
  obtain ⟨e, he, rfl⟩ := List.mem_map.1 hv
  have := hL e (List.mem_filter.1 he).1
  rw [(ofOut_row hL).1]
  exact ⟨this.2.2.1, this.2.2.2⟩
theorem rows_all {n : Nat} {L : List Ed} (hL : Edges n L) : Rows (ofAll n L) := fun r hr v hv => by
  obtain ⟨u, hu, rfl⟩ := getD_mem hr
  rw [(ofAll_row hL).2] at hv
  unfold rowA oneA at hv
  obtain ⟨e, he, h⟩ := List.mem_flatMap.1 hv
  have := hL e he
  rw [(ofAll_row hL).1]
  rcases List.mem_append.1 h with h | h
  · split at h
    · rw [List.mem_singleton.1 h]; exact ⟨this.2.2.1, this.2.2.2⟩
    · cases h
  · split at h
    · rw [List.mem_singleton.1 h]; exact ⟨this.1, this.2.1⟩
    · cases h
end Go.Proofs.Ytpmgkmodpneiiaa.E
