/- A byte that is turned over, plain. Conditions: none. -/
import Derived.Test.YtnpdnnaemfdinaaKea
namespace Go.Proofs.Ytnpdnnaemfdinaa.F
open Go.RowKit Go.Maps Go.Sort Go.Shelf
open Go.Proofs.Ytnpdnnaemfdinaa.Ma
set_option linter.unusedVariables false
set_option linter.unusedSimpArgs false
theorem ins_del_at (P : List ByteArray) : ∀ {D : List De} {j : Nat} {p : De}, (D.Pairwise fun p q => nm p.1 < nm q.1) → D[j]? = some p → insD (p.1, P) (delD p.1 D) = D.set j (p.1, P)
  | [], j, p, _, h => by simp at h
  | y :: r, 0, p, hp, h => by
    rw [List.pairwise_cons] at hp
    obtain rfl : y = p := by simpa using h
    have e1 : delD y.1 (y :: r) = r := by
      unfold delD
      rw [List.filter_cons_of_neg (by simp), List.filter_eq_self]
      intro q hq
      simp only [Bool.not_eq_true', beq_eq_false_iff_ne, ne_eq]
      intro e
      have := hp.1 q hq
      rw [e] at this
      exact List.lt_irrefl _ this
    rw [e1]
    cases r with
    | nil => rfl
    | cons z r =>
      unfold insD
      rw [if_pos ((before_lt _ _).2 (hp.1 z List.mem_cons_self))]
      rfl
  | y :: r, j + 1, p, hp, h => by
    rw [List.pairwise_cons] at hp
    have h' : r[j]? = some p := by simpa using h
    have hy := hp.1 p (List.mem_of_getElem? h')
    have e1 : delD p.1 (y :: r) = y :: delD p.1 r := by
      unfold delD
      rw [List.filter_cons_of_pos]
      simp only [Bool.not_eq_true', beq_eq_false_iff_ne, ne_eq]
      intro e
      rw [e] at hy
      exact List.lt_irrefl _ hy
    rw [e1]
    unfold insD
    rw [if_neg (by
      intro e
      exact List.lt_irrefl _ (List.lt_trans hy ((before_lt _ _).1 e))), ins_del_at P hp.2 h']
    rfl
theorem set_set (P : List ByteArray) (hP : P ≠ []) {D : List De} {j : Nat} {p : De} (h : D.Pairwise fun p q => nm p.1 < nm q.1) (hp : D[j]? = some p) : setD p.1 P D = D.set j (p.1, P) := by
  unfold setD
  rw [if_neg hP, ins_del_at P h hp]
theorem pairs_cons (s z : ByteArray) (r : List ByteArray) : pairsF s (z :: r) = s :: z :: pairsF s r := rfl
theorem pairs_set (s y : ByteArray) : ∀ {P : List ByteArray} {i : Nat} {x : ByteArray}, P[i]? = some x → (pairsF s P)[2 * i + 1]? = some x ∧ pairsF s (P.set i y) = (pairsF s P).set (2 * i + 1) y
  | [], i, x, h => by simp at h
  | z :: r, 0, x, h => by
    obtain rfl : z = x := by simpa using h
    exact ⟨rfl, rfl⟩
  | z :: r, i + 1, x, h => by
    have h' : r[i]? = some x := by simpa using h
    obtain ⟨h1, h2⟩ := pairs_set s y h'
    rw [pairs_cons, List.set_cons_succ, pairs_cons, h2, show 2 * (i + 1) + 1 = (2 * i + 1) + 1 + 1 by omega]
    exact ⟨by simpa using h1, rfl⟩
theorem all_set_at {but y : ByteArray} : ∀ {D : List De} {j : Nat} {p : De} {i : Nat} {x : ByteArray}, (∀ q ∈ D, q.1 ≠ but) → D[j]? = some p → p.2[i]? = some x →
    ∃ pos, (allF D but)[pos]? = some x ∧ allF (D.set j (p.1, p.2.set i y)) but = (allF D but).set pos y
  | [], j, p, i, x, _, h, _ => by simp at h
  | z :: r, 0, p, i, x, hb, h, hx => by
    obtain rfl : z = p := by simpa using h
    obtain ⟨h1, h2⟩ := pairs_set z.1 y hx
    have hl := (List.getElem?_eq_some_iff.1 h1).1
    have hzb : ¬ z.1 = but := hb z List.mem_cons_self
    refine ⟨2 * i + 1, ?_, ?_⟩
    · unfold allF
      rw [List.flatMap_cons, if_neg hzb, List.getElem?_append_left hl]
      exact h1
    · unfold allF
      rw [List.set_cons_zero, List.flatMap_cons, List.flatMap_cons, if_neg hzb]
      dsimp only
      rw [if_neg hzb, h2, List.set_append_left _ _ hl]
  | z :: r, j + 1, p, i, x, hb, h, hx => by
    have h' : r[j]? = some p := by simpa using h
    obtain ⟨pos, h1, h2⟩ := all_set_at (y := y) (fun q hq => hb q (List.mem_cons_of_mem _ hq)) h' hx
    refine ⟨(if z.1 = but then [] else pairsF z.1 z.2 : List ByteArray).length + pos, ?_, ?_⟩
    · unfold allF at h1 ⊢
      rw [List.flatMap_cons, List.getElem?_append_right (by omega), Nat.add_sub_cancel_left]
      exact h1
    · unfold allF at h2 ⊢
      rw [List.set_cons_succ, List.flatMap_cons, List.flatMap_cons, h2, List.set_append_right _ _ (by omega), Nat.add_sub_cancel_left]
theorem flip_size (x : ByteArray) (t : Nat) (u : UInt8) : (flipB x t u).size = x.size := by
  show (x.data.setIfInBounds t _).size = x.data.size
  rw [Array.size_setIfInBounds]
theorem set_self {x : ByteArray} {t : Nat} (ht : t < x.size) : (⟨x.data.setIfInBounds t (x.data[t]'ht)⟩ : ByteArray) = x := by
  obtain ⟨d⟩ := x
  congr 1
  apply Array.toList_inj.1
  rw [Array.toList_setIfInBounds]
  show d.toList.set t (d[t]'ht) = d.toList
  rw [← Array.getElem_toList, List.set_getElem_self]
theorem flip_zero {x : ByteArray} {t : Nat} (ht : t < x.size) : flipB x t 0 = x := by
  unfold flipB
  have e : x.data.getD t 0 = x.data[t]'ht := by unfold Array.getD; exact dif_pos ht
  rw [e, UInt8.xor_zero, set_self]
theorem flip_ne {x : ByteArray} {t : Nat} {u : UInt8} (ht : t < x.size) (hu : u ≠ 0) : flipB x t u ≠ x := by
  intro h
  unfold flipB at h
  have e : x.data.getD t 0 = x.data[t]'ht := by unfold Array.getD; exact dif_pos ht
  rw [e] at h
  have h2 : (x.data.setIfInBounds t (x.data[t]'ht ^^^ u))[t]? = x.data[t]? := by
    have := congrArg (fun y : ByteArray => y.data[t]?) h
    exact this
  rw [Array.getElem?_setIfInBounds_self_of_lt ht, Array.getElem?_eq_getElem ht] at h2
  have h3 : x.data[t]'ht ^^^ u = x.data[t]'ht := by simpa using h2
  apply hu
  have h4 : x.data[t]'ht ^^^ (x.data[t]'ht ^^^ u) = x.data[t]'ht ^^^ x.data[t]'ht := by rw [h3]
  rw [← UInt8.xor_assoc, UInt8.xor_self, UInt8.zero_xor] at h4
  exact h4
theorem flip_twice {x : ByteArray} {t : Nat} {u : UInt8} (ht : t < x.size) : flipB (flipB x t u) t u = x := by
  unfold flipB
  have e : x.data.getD t 0 = x.data[t]'ht := by unfold Array.getD; exact dif_pos ht
  rw [e]
  have ht2 : t < (x.data.setIfInBounds t (x.data[t]'ht ^^^ u)).size := by rw [Array.size_setIfInBounds]; exact ht
  have e2 : (x.data.setIfInBounds t (x.data[t]'ht ^^^ u)).getD t 0 = x.data[t]'ht ^^^ u := by
    unfold Array.getD
    rw [dif_pos ht2]
    simp
  rw [e2, UInt8.xor_assoc, UInt8.xor_self, UInt8.xor_zero, Array.setIfInBounds_setIfInBounds, set_self]
section
variable {D : List De} {j i t : Nat} {p : De} {x : ByteArray} {u : UInt8}
theorem there_in (h : D.Pairwise fun p q => nm p.1 < nm q.1) (hp : D[j]? = some p) (hx : p.2[i]? = some x) : thereD D p.1 i = 0 := by
  have hi := (List.getElem?_eq_some_iff.1 hx).1
  unfold thereD
  rw [lookD_at h hp, if_pos ⟨by omega, by omega⟩]
theorem flip_in (h : D.Pairwise fun p q => nm p.1 < nm q.1) (hp : D[j]? = some p) (hx : p.2[i]? = some x) (ht : t < 128) : flipF D p.1 i t u = (0, D.set j (p.1, p.2.set i (flipB x t u))) := by
  unfold flipF
  rw [if_neg (by rw [there_in h hp hx]; decide), if_neg (by omega), lookD_at h hp, Int.toNat_natCast, Int.toNat_natCast, show p.2.getD i ⟨#[]⟩ = x by simp [List.getD, hx], set_set _ (by
    intro e
    have := (List.getElem?_eq_some_iff.1 hx).1
    have h2 := congrArg List.length e
    rw [List.length_set] at h2
    simp at h2
    rw [h2] at this
    simp at this) h hp]
theorem flip_back (h2 : (D.set j (p.1, p.2.set i (flipB x t u))).Pairwise fun p q => nm p.1 < nm q.1) (hp : D[j]? = some p) (hx : p.2[i]? = some x) (ht : t < 128) (hxs : x.size = 128) : flipF (D.set j (p.1, p.2.set i (flipB x t u))) p.1 i t u = (0, D) := by
  have hj := (List.getElem?_eq_some_iff.1 hp).1
  have hi := (List.getElem?_eq_some_iff.1 hx).1
  have e1 : (D.set j (p.1, p.2.set i (flipB x t u)))[j]? = some (p.1, p.2.set i (flipB x t u)) := by simp [hj]
  have e2 : (p.1, p.2.set i (flipB x t u)).2[i]? = some (flipB x t u) := by simp [hi]
  have := flip_in (u := u) h2 e1 e2 ht
  rw [flip_twice (by omega)] at this
  dsimp only at this
  rw [this, List.set_set, List.set_set]
  have e3 : p.2.set i x = p.2 := by
    have := (List.getElem?_eq_some_iff.1 hx).2
    rw [← this, List.set_getElem_self]
  have e4 : D.set j p = D := by
    have := (List.getElem?_eq_some_iff.1 hp).2
    rw [← this, List.set_getElem_self]
  rw [e3, e4]
theorem flip_far (h : D.Pairwise fun p q => nm p.1 < nm q.1) (hp : D[j]? = some p) (hx : p.2[i]? = some x) : flipF D p.1 i (128 + (t : Int)) u = (2, D) := by
  unfold flipF
  rw [if_neg (by rw [there_in h hp hx]; decide), if_pos (by omega)]
theorem flip_neg (D : List De) (s : ByteArray) (i : Nat) (a : Int) (u : UInt8) : flipF D s (-1 - (i : Int)) a u = (4, D) := by
  have : thereD D s (-1 - (i : Int)) = 4 := by unfold thereD; rw [if_neg (by omega)]
  unfold flipF
  rw [if_pos this]
end
/-- How many of the first k texts of two lists that part in one place do so. -/
def cnt (pos : Nat) (x y : ByteArray) (k : Nat) : Nat := if pos < k ∧ y ≠ x then 1 else 0
theorem cnt_step {O : List ByteArray} {pos k : Nat} {x y a a' : ByteArray} (hx : O[pos]? = some x) (ha : O[k]? = some a) (ha' : (O.set pos y)[k]? = some a') : cnt pos x y (k + 1) = cnt pos x y k + (if a' = a then 0 else 1) := by
  unfold cnt
  by_cases hk : k = pos
  · subst hk
    have hl := (List.getElem?_eq_some_iff.1 hx).1
    have e1 : x = a := by rw [hx] at ha; exact Option.some.inj ha
    have e2 : y = a' := by
      rw [List.getElem?_set_self hl] at ha'
      exact Option.some.inj ha'
    subst e1 e2
    by_cases h : y = x
    · rw [if_neg (by simp [h]), if_neg (by omega), if_pos h]
    · rw [if_pos ⟨by omega, h⟩, if_neg (by omega), if_neg h]
  · have e : a' = a := by
      rw [List.getElem?_set_ne (fun e => hk e.symm), ha] at ha'
      exact (Option.some.inj ha').symm
    rw [if_pos e]
    by_cases h : pos < k
    · by_cases hy : y = x
      · rw [if_neg (by simp [hy]), if_neg (by simp [hy])]
      · rw [if_pos ⟨by omega, hy⟩, if_pos ⟨h, hy⟩]
    · rw [if_neg (by omega), if_neg (by omega)]
theorem cnt_le (pos : Nat) (x y : ByteArray) (k : Nat) : cnt pos x y k ≤ 1 := by
  unfold cnt
  split <;> omega
theorem FsX.keepX {X S : Nat → Prop} {w w' : World} {b bm : Nat} {room left : Int} {D : List De} (h : FsX X w b bm room left D) (hf : Fr S w w') (hS : ∀ k, S k → X k) : FsX X w' b bm room left D := by
  obtain ⟨L, h1, h2, h3⟩ := h.ex
  exact ⟨⟨L, h1.keep hf (fun e => h.nb (hS _ e)) (fun e => h.nbm (hS _ e)) (fun p hp g hg e => h2 p hp g hg (hS _ e)), h2, h3⟩, h.nb, h.nbm, fun k hk => Nat.lt_of_lt_of_le (h.low k hk) hf.size, h.rm, h.lf⟩
end Go.Proofs.Ytnpdnnaemfdinaa.F
