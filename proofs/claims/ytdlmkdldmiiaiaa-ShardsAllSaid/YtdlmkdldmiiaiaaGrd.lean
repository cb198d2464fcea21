/- Rows of rows of numbers, each in memory of the call's own. Conditions: those that each theorem names. -/
import Derived.Test.YtdlmkdldmiiaiaaSrt
namespace Go.Proofs.Ytdlmkdldmiiaiaa.E
open Go.RowKit Go.Sort Go.Shelf
open Go.Proofs.Ytdlmkdldmiiaiaa.Ma Go.Proofs.Ytdlmkdldmiiaiaa.By Go.Proofs.Ytdlmkdldmiiaiaa.Enc
set_option linter.unusedVariables false
set_option linter.unusedSimpArgs false
/-- Block p holds the slices V; each is a row of its own, of these numbers. -/
structure Grid (B : Nat) (w : World) (p : Nat) (V : List Value) (R : List (List Int)) : Prop where
  blk : w.heap[p]? = some (.cells V.toArray 62 (0, 0))
  len : V.length = R.length
  rows : ∀ (i : Nat) (v : Value) (r : List Int), V[i]? = some v → R[i]? = some r → w.ownsRow B 3 1 v r.length (cellsK encI r)
  apart : ∀ (i j : Nat) (v u : Value) (g : Nat), i ≠ j → V[i]? = some v → V[j]? = some u → v.ownBlock = some g → u.ownBlock ≠ some g
  at_ : B ≤ p
/-- A block of the grid's. -/
def Grid.has (p : Nat) (V : List Value) (k : Nat) : Prop := k = p ∨ ∃ v ∈ V, v.ownBlock = some k
section
variable {B : Nat} {w w' : World} {p : Nat} {V : List Value} {R : List (List Int)}
theorem Grid.fr {S : Nat → Prop} (h : Grid B w p V R) (hf : Fr S w w') (hS : ∀ k, Grid.has p V k → ¬ S k) : Grid B w' p V R :=
  ⟨hf.keep h.blk (hS p (.inl rfl)), h.len, fun i v r hv hr => hf.row (h.rows i v r hv hr) (fun g hg => hS g (.inr ⟨v, List.mem_of_getElem? hv, hg⟩)), h.apart, h.at_⟩
theorem Grid.below (h : Grid B w p V R) (hb : Below w.heap.size w w') : Grid B w' p V R := h.fr (Fr.of_below hb) (fun _ _ e => e)
theorem Grid.row_at (h : Grid B w p V R) {i : Nat} {r : List Int} (hr : R[i]? = some r) : ∃ v, V[i]? = some v ∧ w.ownsRow B 3 1 v r.length (cellsK encI r) ∧ w.cell? ⟨p, i, none⟩ = some v ∧ w.frozen? ⟨p, i, none⟩ = false := by
  have hi := (List.getElem?_eq_some_iff.1 hr).1
  obtain ⟨v, hv⟩ : ∃ v, V[i]? = some v := ⟨_, List.getElem?_eq_getElem (by rw [h.len]; exact hi)⟩
  exact ⟨v, hv, h.rows i v r hv hr, cell_of_heap h.blk (by simpa using hv), free_of_heap h.blk (by simp; rw [h.len]; exact hi)⟩
/-- No row lies in the grid's own block. -/
theorem Grid.not_p (h : Grid B w p V R) {v : Value} (hv : v ∈ V) : v.ownBlock ≠ some p := by
  obtain ⟨i, hi, rfl⟩ := List.mem_iff_getElem.1 hv
  obtain ⟨r, hr⟩ : ∃ r, R[i]? = some r := ⟨_, List.getElem?_eq_getElem (by rw [← h.len]; exact hi)⟩
  have := h.rows i _ r (List.getElem?_eq_getElem hi) hr
  intro e
  rcases this.2 with ⟨e1, _⟩ | ⟨g, cap, cur, e1, _, hg, _⟩
  · rw [e1] at e; cases e
  · rw [e1] at e
    cases e
    rw [h.blk] at hg
    cases hg
theorem Grid.lt (h : Grid B w p V R) {k : Nat} (hk : Grid.has p V k) : k < w.heap.size := by
  rcases hk with rfl | ⟨v, hv, hg⟩
  · exact lt_of_heap h.blk
  · obtain ⟨i, hi, rfl⟩ := List.mem_iff_getElem.1 hv
    obtain ⟨r, hr⟩ : ∃ r, R[i]? = some r := ⟨_, List.getElem?_eq_getElem (by rw [← h.len]; exact hi)⟩
    exact (h.rows i _ r (List.getElem?_eq_getElem hi) hr).lt k hg |>.2
/-- A row is longer by an append, and laid where it was. -/
theorem Grid.push (h : Grid B w p V R) {i : Nat} {v v' : Value} {r r' : List Int} (hv : V[i]? = some v) (hr : R[i]? = some r) (hf : Fr (fun k => v.ownBlock = some k) w w') (hrow : w'.ownsRow B 3 1 v' r'.length (cellsK encI r'))
    (hown : ∀ g, v'.ownBlock = some g → v.ownBlock = some g ∨ w.heap.size ≤ g) :
    Grid B (w'.setCell ⟨p, i, none⟩ v') p (V.set i v') (R.set i r') ∧ Fr (fun k => Grid.has p V k) w (w'.setCell ⟨p, i, none⟩ v') := by
  have hvm := List.mem_of_getElem? hv
  have hi := (List.getElem?_eq_some_iff.1 hv).1
  have hp := h.not_p hvm
  have hfs := Fr.setCell w' ⟨p, i, none⟩ v'
  have hpl := lt_of_heap h.blk
  have hblk : w'.heap[p]? = some (.cells V.toArray 62 (0, 0)) := hf.keep h.blk hp
  have hv'p : v'.ownBlock ≠ some p := fun e => by
    rcases hown p e with e1 | e1
    · exact hp e1
    · omega
  refine ⟨⟨?_, by rw [List.length_set, List.length_set, h.len], fun j u q hu hq => ?_, fun j l u z g hjl hu hz hg => ?_, h.at_⟩, ?_⟩
  · rw [heap_setCell_at hblk]
    simp
  · by_cases hji : j = i
    · subst hji
      rw [List.getElem?_set_self hi] at hu
      rw [List.getElem?_set_self (by rw [← h.len]; exact hi)] at hq
      cases hu
      cases hq
      exact hfs.row hrow (fun g hg e => by have e' : g = p := e; subst e'; exact hv'p hg)
    · rw [List.getElem?_set_ne (fun e => hji e.symm)] at hu hq
      have hum := List.mem_of_getElem? hu
      refine hfs.row (hf.row (h.rows j u q hu hq) (fun g hg e => h.apart j i u v g hji hu hv hg e)) (fun g hg e => ?_)
      have e' : g = p := e
      subst e'
      exact h.not_p hum hg
  · have key : ∀ (j : Nat) (u : Value) (g : Nat), j ≠ i → V[j]? = some u → u.ownBlock = some g → v'.ownBlock ≠ some g := fun j u g hji hu hg e => by
      rcases hown g e with e1 | e1
      · exact h.apart j i u v g hji hu hv hg e1
      · have := h.lt (k := g) (.inr ⟨u, List.mem_of_getElem? hu, hg⟩)
        omega
    by_cases hji : j = i
    · subst hji
      rw [List.getElem?_set_self hi] at hu
      cases hu
      rw [List.getElem?_set_ne hjl] at hz
      exact fun e => key l z g (fun e => hjl e.symm) hz e hg
    · rw [List.getElem?_set_ne (fun e => hji e.symm)] at hu
      by_cases hli : l = i
      · subst hli
        rw [List.getElem?_set_self hi] at hz
        cases hz
        exact key j u g hji hu hg
      · rw [List.getElem?_set_ne (fun e => hli e.symm)] at hz
        exact h.apart j l u z g hjl hu hz hg
  · exact (hf.mono (fun k e => .inr ⟨v, hvm, e⟩)).trans (hfs.mono (fun k e => .inl e))
end
end Go.Proofs.Ytdlmkdldmiiaiaa.E
