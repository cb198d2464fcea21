/- slices.Sort, slices.Compact at a row of the call's own. Conditions: those that each theorem names. -/
import Derived.Test.YtdlmkdldmiiaiaaSam
namespace Go.Proofs.Ytdlmkdldmiiaiaa.E
open Go.RowKit Go.Sort Go.Shelf
open Go.Proofs.Ytdlmkdldmiiaiaa.Ma Go.Proofs.Ytdlmkdldmiiaiaa.By Go.Proofs.Ytdlmkdldmiiaiaa.Enc
set_option linter.unusedVariables false
set_option linter.unusedSimpArgs false
theorem fr_grow (S : Nat → Prop) (w : World) (os : Array Obj) : Fr S w (grow w os) :=
  ⟨rfl, rfl, rfl, by simp [grow], fun k hk _ => by simp [grow, Array.getElem?_append, hk]⟩
/-- The row's first cells laid anew. -/
theorem row_laid {w : World} {B g c q : Nat} {os : Array Obj} {L zs : List Int} {m : Nat} (h : w.ownsRow B 3 1 (.slice (some ⟨g, 0, none⟩) L.length c) L.length (cellsK encI L)) (hz : zs.length = L.length) (hm : m ≤ zs.length) :
    (grow ((w.drewN q).setCells g 0 (zs.map (Value.int .i64))) os).ownsRow B 3 1 (.slice (some ⟨g, 0, none⟩) (zs.take m).length c) (zs.take m).length (cellsK encI (zs.take m)) ∧
      Fr (fun k => k = g) w (grow ((w.drewN q).setCells g 0 (zs.map (Value.int .i64))) os) := by
  rcases h.2 with ⟨e1, _⟩ | ⟨g', cap, cur, e1, hb, hg, hc, hm', hcs, hcur⟩
  · cases e1
  cases e1
  have hg2 : (w.drewN q).heap[g]? = some (.cells cur 3 (0, 0)) := hg
  have hg3 := heap_setCells_at (zs.map (Value.int .i64)) (o := 0) hg2
  have hg4 := (fr_grow (fun _ => False) ((w.drewN q).setCells g 0 (zs.map (Value.int .i64))) os).keep hg3 (fun e => e)
  have hcsz : cur.size = c := by rw [hcs, Nat.mul_one]
  have hlist := setMany_list (zs.map (Value.int .i64)) cur 0 (by rw [List.length_map]; omega)
  refine ⟨row_cut encI_len hb hg4 (by rw [List.length_take]; omega) hm' ?_ ?_, ((Fr.drewN _ w q).trans (Fr.setCells _ _ g 0)).trans (fr_grow _ _ _)⟩
  · rw [← Array.length_toList, hlist]
    simp
    omega
  · rw [hlist, Nat.mul_one, List.take_zero, List.nil_append, List.take_append_of_le_length (by rw [List.length_map, List.length_take]; omega), ← List.map_take, show (zs.take m).length = m by rw [List.length_take]; omega]
    have e : ∀ M : List Int, cellsK encI M = M.map (Value.int .i64) := fun M => by
      unfold cellsK
      induction M with
      | nil => rfl
      | cons x r ih => rw [List.flatMap_cons, ih]; rfl
    rw [e]
def srtI (L : List Int) : List Int := L.mergeSort fun x y => decide (x ≤ y)
theorem srtI_length (L : List Int) : (srtI L).length = L.length := (List.mergeSort_perm L _).length_eq
theorem row_addr {w : World} {B c : Nat} {A : Option Addr} {L : List Int} (h : w.ownsRow B 3 1 (.slice A L.length c) L.length (cellsK encI L)) (hl : L ≠ []) : ∃ g, A = some ⟨g, 0, none⟩ ∧ g < w.heap.size ∧ L.length ≤ c := by
  rcases h.2 with ⟨e1, h0⟩ | ⟨g', cap, cur, e1, hb, hg, hc, _⟩
  · exact absurd (List.length_eq_zero_iff.1 h0) hl
  · cases e1
    exact ⟨g', rfl, lt_of_heap hg, hc⟩
theorem row_intsH {w : World} {B g c : Nat} {L : List Int} (h : w.ownsRow B 3 1 (.slice (some ⟨g, 0, none⟩) L.length c) L.length (cellsK encI L)) : Holds (Value.int .i64) w g 0 L.toArray := by
  have := Lib.holds_of_ints (b := g) (off := 0) (n := L.length) (zs := L) (w := w) (Nat.le_refl _) (fun j hj => ?_) (fun j hj => ?_)
  · rw [List.take_length] at this
    exact this
  · obtain ⟨g', c', e, _, _, _, _, hc⟩ := row_own encI_len h (List.getElem?_eq_getElem hj)
    cases e
    have := (hc 0 _ rfl).1
    rw [Nat.mul_one, Nat.add_zero] at this
    rw [Nat.zero_add, this]
    simp [List.getD, List.getElem?_eq_getElem hj]
  · obtain ⟨g', c', e, _, _, _, _, hc⟩ := row_own encI_len h (List.getElem?_eq_getElem hj)
    cases e
    have := (hc 0 _ rfl).2
    rw [Nat.mul_one, Nat.add_zero] at this
    rw [Nat.zero_add]
    exact this
theorem sort_at (B : Nat) (A : Option Addr) (c : Nat) (L : List Int) (w : World) (h : w.ownsRow B 3 1 (.slice A L.length c) L.length (cellsK encI L)) (hl : L.length ≤ 1000000) :
    Calls Try.prog 30 #[.slice A L.length c] w fun e w' => e = .returned (.tuple #[]) ∧ w'.ownsRow B 3 1 (.slice A L.length c) L.length (cellsK encI (srtI L)) ∧ Fr (fun k => (Value.slice A L.length c).ownBlock = some k) w w' := by
  by_cases hn : L = []
  · subst hn
    refine (Try.slices_Sort_int_none A c w).mono ?_
    rintro e w' ⟨rfl, rfl⟩
    have e0 : srtI [] = [] := List.length_eq_zero_iff.1 (srtI_length [])
    rw [e0]
    exact ⟨rfl, h, Fr.refl _ _⟩
  · obtain ⟨g, rfl, hg, hc⟩ := row_addr h hn
    have hH := row_intsH h
    refine (Try.slices_Sort_int g 0 c L w hH hg (by omega)).mono ?_
    rintro e w' ⟨rfl, n, os, rfl⟩
    have hlen := srtI_length L
    rw [show (L.mergeSort fun x y => decide (x ≤ y)) = srtI L from rfl, Lib.putRow_eq_setCells (Value.int .i64) w g 0 L.toArray (srtI L) n hH (by rw [hlen]; simp)]
    have := row_laid (q := n) (os := os) h hlen (Nat.le_refl _)
    rw [List.take_length, hlen] at this
    exact ⟨rfl, this.1, this.2.mono (fun k e => by rw [e]; rfl)⟩
theorem compact_at (B : Nat) (A : Option Addr) (c : Nat) (L : List Int) (w : World) (h : w.ownsRow B 3 1 (.slice A L.length c) L.length (cellsK encI L)) (hl : L.length ≤ 1000000) :
    Calls Try.prog 31 #[.slice A L.length c] w fun e w' => e = .returned (.slice A (Lib.compact L).length c) ∧ w'.ownsRow B 3 1 (.slice A (Lib.compact L).length c) (Lib.compact L).length (cellsK encI (Lib.compact L)) ∧ Fr (fun k => (Value.slice A L.length c).ownBlock = some k) w w' := by
  by_cases hn : L = []
  · subst hn
    refine (Try.slices_Compact_int_empty A c w).mono ?_
    rintro e w' ⟨rfl, rfl⟩
    exact ⟨rfl, h, Fr.refl _ _⟩
  · obtain ⟨g, rfl, hg, hc⟩ := row_addr h hn
    have hH := row_intsH h
    have hle := Lib.compact_length_le L
    refine (Try.slices_Compact_int g 0 c L w hH (by omega) hc).mono ?_
    rintro e w' ⟨rfl, q, rfl⟩
    rw [Lib.putRow_eq_setCells (Value.int .i64) w g 0 L.toArray (Lib.compact L ++ List.replicate (L.length - (Lib.compact L).length) 0) q hH (by simp; omega)]
    have := row_laid (q := q) (os := #[]) (zs := Lib.compact L ++ List.replicate (L.length - (Lib.compact L).length) 0) (m := (Lib.compact L).length) h (by simp; omega) (by simp)
    rw [List.take_append_of_le_length (Nat.le_refl _), List.take_length] at this
    have eg : ∀ V : World, grow V #[] = V := fun V => by simp [grow]
    rw [eg] at this
    exact ⟨rfl, this.1, this.2.mono (fun k e => by rw [e]; rfl)⟩
end Go.Proofs.Ytdlmkdldmiiaiaa.E
