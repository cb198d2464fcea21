/- Files by names, in order: no walk. Conditions: none. -/
import Derived.WalkKit
import Derived.OwnWalk
import Derived.Maps.OwnSet
import Derived.Laws.LoneSync
import Derived.Laws.OwnMore
import Derived.Deep.QuietTactic
import Derived.BigQuiet
import Derived.WalkSpells
import Derived.WalkLawsBesides
import Derived.Deep.RegionHeld3
import Derived.Deep.RegionLaw
import Derived.Deep.DrawnRows
import Derived.Deep.CutBlock
import Derived.StillTailTactics
import Derived.Lib.Hide
import Derived.Maps.AppendAt
import Derived.StringKeys
import Derived.Shelf.SlIter.Nil
import Derived.Shelf.SlIter.Sorted
import Derived.Test.YtnpdnnaemfdinaaShelf
import Derived.Test.YtnpdnnaemfdinaaMa
namespace Go.Proofs.Ytnpdnnaemfdinaa.F
open Go.RowKit Go.Maps Go.Sort Go.Shelf
open Go.Proofs.Ytnpdnnaemfdinaa.Ma
set_option linter.unusedVariables false
set_option linter.unusedSimpArgs false
/-- A file: its name, where its pages lie, and they. -/
abbrev En := ByteArray × Value × List ByteArray
abbrev nm (s : ByteArray) : List UInt8 := s.data.toList
def datF (p : En) : Lit × DataW Value := (.string (nm p.1), .held p.2.1)
def mk (L : List En) : DataW Value := .map (L.map datF)
def hd (v : Value) : Option (DataW Value × List MemPlace) := some (.held v, [])
def look (L : List En) (s : ByteArray) : Value × List ByteArray := match L.find? (fun p => nm p.1 == nm s) with | some p => p.2 | none => (.slice none 0 0, [])
def ins (x : En) : List En → List En
  | [] => [x]
  | y :: r => if bytesBefore (nm x.1) (nm y.1) = true then x :: y :: r else y :: ins x r
def del (s : ByteArray) (L : List En) : List En := L.filter (fun p => !(nm p.1 == nm s))
theorem insert_mk (x : En) (L : List En) : DataW.insert (datF x) (L.map datF) = (ins x L).map datF := by
  induction L with
  | nil => rfl
  | cons y r ih =>
    simp only [List.map_cons, DataW.insert, ins]
    have e : (datF x).1.before (datF y).1 = bytesBefore (nm x.1) (nm y.1) := rfl
    rw [e]
    by_cases h : bytesBefore (nm x.1) (nm y.1) = true
    · rw [if_pos h, if_pos h]; rfl
    · rw [if_neg h, if_neg h, ih]; rfl
theorem filter_mk (s : ByteArray) (L : List En) : (L.map datF).filter (fun p => !p.1.sameKey (.string (nm s))) = (del s L).map datF := by
  unfold del
  rw [List.filter_map]
  rfl
theorem mk_put (x : En) (L : List En) : (mk L).put (.string (nm x.1)) (.held x.2.1) = mk (ins x (del x.1 L)) := by
  simp only [mk, DataW.put, filter_mk]
  rw [← insert_mk]
  rfl
theorem mk_del (s : ByteArray) (L : List En) : (mk L).del (.string (nm s)) = mk (del s L) := by
  simp only [mk, DataW.del, filter_mk]
theorem mk_at (s : ByteArray) (L : List En) : (mk L).atKey (.string (nm s)) (.held (.slice none 0 0)) = .held (look L s).1 := by
  have h : (L.map datF).find? (fun p => p.1.sameKey (.string (nm s))) = (L.find? (fun p => nm p.1 == nm s)).map datF := by
    rw [List.find?_map]
    rfl
  simp only [mk, DataW.atKey, h, look]
  cases L.find? (fun p => nm p.1 == nm s) <;> rfl
theorem mk_size (L : List En) : Maps.size (mk L) = L.length := by simp [mk, Maps.size]
theorem mk_keys (L : List En) : strKeys (mk L) = L.map fun p => nm p.1 := by simp [mk, strKeys, strOf, datF, Function.comp_def]
abbrev Rising (L : List En) : Prop := L.Pairwise fun p q => nm p.1 < nm q.1
theorem sorted_keys {L : List En} (h : Rising L) : (L.map fun p => nm p.1).mergeSort leB = L.map fun p => nm p.1 := by
  apply List.mergeSort_of_pairwise
  rw [List.pairwise_map]
  exact h.imp (fun {a b} h => by simp only [leB, decide_eq_true_eq]; exact List.le_of_lt h)
theorem look_at {L : List En} (h : Rising L) {j : Nat} {p : En} (hp : L[j]? = some p) : look L p.1 = p.2 := by
  unfold look
  have hj := List.getElem?_eq_some_iff.1 hp
  have : L.find? (fun q => nm q.1 == nm p.1) = some p := by
    rw [List.find?_eq_some_iff_getElem]
    refine ⟨by simp, j, hj.1, hj.2, fun k hk => ?_⟩
    have := List.pairwise_iff_getElem.1 h k j (by have := hj.1; omega) hj.1 hk
    rw [hj.2] at this
    simp only [Bool.not_eq_true', beq_eq_false_iff_ne, ne_eq]
    intro e
    rw [e] at this
    exact List.lt_irrefl _ this
  rw [this]
theorem le_sum {l : List Nat} {x : Nat} (h : x ∈ l) : x ≤ l.sum := by
  induction l with
  | nil => cases h
  | cons y r ih =>
    rw [List.sum_cons]
    rcases List.mem_cons.1 h with rfl | h
    · omega
    · have := ih h; omega
/-- May it be a name? -/
def nameOk (s : ByteArray) : Bool := decide (1 ≤ s.size ∧ s.size ≤ 8) && (nm s).all fun c => decide (33 ≤ c.toNat ∧ c.toNat ≤ 126)
def pagesOf (L : List En) : Nat := (L.map fun p => p.2.2.length).sum
theorem zero28 (w : World) : (zeroValue 28).run Try.prog w = .ok (.slice none 0 0) w := by kernel_rfl
/-- A file system with so much room, in block b, its map in block bm; whose pages lie in rows of their own, from block B on. -/
structure FsAt (B : Nat) (w : World) (b bm : Nat) (room left : Int) (L : List En) : Prop where
  blk : w.heap[b]? = some (.cells #[.int .i64 room, .int .i64 left, .map (some bm)] 55 (0, 0))
  own : w.ownsMap Try.prog 9 hd bm L.length (mk L)
  rows : ∀ p ∈ L, w.ownsRow B 9 1 p.2.1 p.2.2.length (p.2.2.map Value.string) ∧ p.2.2 ≠ []
  apart : L.Pairwise fun p q => ∀ g, p.2.1.ownBlock = some g → q.2.1.ownBlock ≠ some g
  rise : Rising L
  at_ : B ≤ b ∧ B ≤ bm
  small : pagesOf L ≤ 4096
  names : ∀ p ∈ L, nameOk p.1 = true
  full : ∀ p ∈ L, ∀ s ∈ p.2.2, s.size = 128
theorem FsAt.c0 {B : Nat} {w : World} {b bm : Nat} {room left : Int} {L : List En} (h : FsAt B w b bm room left L) : w.cell? ⟨b, 0, none⟩ = some (.int .i64 room) := cell_of_heap h.blk rfl
theorem FsAt.c1 {B : Nat} {w : World} {b bm : Nat} {room left : Int} {L : List En} (h : FsAt B w b bm room left L) : w.cell? ⟨b, 1, none⟩ = some (.int .i64 left) := cell_of_heap h.blk rfl
theorem FsAt.c2 {B : Nat} {w : World} {b bm : Nat} {room left : Int} {L : List En} (h : FsAt B w b bm room left L) : w.cell? ⟨b, 2, none⟩ = some (.map (some bm)) := cell_of_heap h.blk rfl
theorem FsAt.f1 {B : Nat} {w : World} {b bm : Nat} {room left : Int} {L : List En} (h : FsAt B w b bm room left L) : w.frozen? ⟨b, 1, none⟩ = false := free_of_heap h.blk (by simp)
theorem FsAt.below {B : Nat} {w w' : World} {b bm : Nat} {room left : Int} {L : List En} (h : FsAt B w b bm room left L) (hb : Below w.heap.size w w') : FsAt B w' b bm room left L :=
  ⟨(Fr.of_below hb).keep h.blk (fun e => e), (Fr.of_below hb).map h.own (fun e => e), fun p hp => ⟨(Fr.of_below hb).row (h.rows p hp).1 (fun _ _ e => e), (h.rows p hp).2⟩, h.apart, h.rise, h.at_, h.small, h.names, h.full⟩
theorem FsAt.drewN {B : Nat} {w : World} {b bm : Nat} {room left : Int} {L : List En} (m : Nat) (h : FsAt B w b bm room left L) : FsAt B (w.drewN m) b bm room left L := ⟨h.blk, h.own, h.rows, h.apart, h.rise, h.at_, h.small, h.names, h.full⟩
theorem FsAt.ne {B : Nat} {w : World} {b bm : Nat} {room left : Int} {L : List En} (h : FsAt B w b bm room left L) : bm ≠ b := by
  rintro rfl
  obtain ⟨es, clock, h2, _⟩ := h.own
  have h1 := h.blk
  rw [h2] at h1
  cases h1
theorem FsAt.lt {B : Nat} {w : World} {b bm : Nat} {room left : Int} {L : List En} (h : FsAt B w b bm room left L) : b < w.heap.size := lt_of_heap h.blk
theorem law9 : Keyed Try.prog 9 := string_keyed Try.underlying9
theorem FsAt.look {B : Nat} {w : World} {b bm : Nat} {room left : Int} {L : List En} (h : FsAt B w b bm room left L) {s : ByteArray} (hs : s.size ≤ maxLen) :
    (Instr.lookup 53 (.map (some bm)) (.string s) false).run Try.prog w = .ok (F.look L s).1 w := by
  obtain ⟨v, ps, hrun, hv⟩ := h.own.lookup law9 Try.underlying53 (zero28 w) (zd := .held (.slice none 0 0)) (zp := []) rfl (WideMaps.keyOf_string_mk Try.underlying9 hs)
  rw [mk_at] at hv
  cases hv
  exact hrun
theorem name_size {s : ByteArray} (h : nameOk s = true) : s.size ≤ maxLen := by
  unfold nameOk at h
  simp only [Bool.and_eq_true, decide_eq_true_eq] at h
  unfold maxLen
  omega
abbrev encS (s : ByteArray) : List Value := [.string s]
theorem encS_len (s : ByteArray) : (encS s).length = 1 := rfl
theorem cellsS (S : List ByteArray) : cellsK encS S = S.map Value.string := by
  unfold cellsK
  induction S with
  | nil => rfl
  | cons y r ih => simp [encS, List.flatMap_cons] at ih ⊢; exact ih
theorem row_s {w : World} {B : Nat} {v : Value} {S : List ByteArray} (h : w.ownsRow B 9 1 v S.length (S.map Value.string)) {j : Nat} {x : ByteArray} (hx : S[j]? = some x) :
    ∃ g c, v = .slice (some ⟨g, 0, none⟩) S.length c ∧ B ≤ g ∧ g < w.heap.size ∧ S.length ≤ c ∧ c ≤ 9223372036854775807 ∧ w.cell? ⟨g, j, none⟩ = some (.string x) ∧ w.frozen? ⟨g, j, none⟩ = false := by
  rw [← cellsS] at h
  obtain ⟨g, c, e, h1, h2, h3, h4, hc⟩ := row_own encS_len h hx
  obtain ⟨a1, a2⟩ := hc 0 _ rfl
  rw [Nat.mul_one, Nat.add_zero] at a1 a2
  exact ⟨g, c, e, h1, h2, h3, h4, a1, a2⟩
theorem pages_take {L : List En} {k : Nat} {p : En} (h : L[k]? = some p) : pagesOf (L.take (k + 1)) = pagesOf (L.take k) + p.2.2.length := by
  unfold pagesOf
  rw [List.take_add_one, h, List.map_append, List.sum_append]
  simp
theorem len_le {L : List En} (h : ∀ p ∈ L, p.2.2 ≠ []) : L.length ≤ pagesOf L := by
  unfold pagesOf
  induction L with
  | nil => simp
  | cons y r ih =>
    have h1 := ih (fun p hp => h p (List.mem_cons_of_mem _ hp))
    have h2 : 0 < y.2.2.length := List.length_pos_iff.2 (h y List.mem_cons_self)
    simp
    omega
theorem FsAt.count {B : Nat} {w : World} {b bm : Nat} {room left : Int} {L : List En} (h : FsAt B w b bm room left L) : L.length ≤ 4096 := Nat.le_trans (len_le fun p hp => (h.rows p hp).2) h.small
/-- What a name has: nothing, or a row of its own. -/
theorem FsAt.found {B : Nat} {w : World} {b bm : Nat} {room left : Int} {L : List En} (h : FsAt B w b bm room left L) (s : ByteArray) : w.ownsRow B 9 1 (F.look L s).1 (F.look L s).2.length ((F.look L s).2.map Value.string) ∧ (F.look L s).2.length ≤ 4096 := by
  unfold F.look
  cases hf : L.find? (fun p => nm p.1 == nm s) with
  | none => exact ⟨World.ownsRow_nil _ _ _ _, by simp⟩
  | some p =>
    have hm := List.mem_of_find?_eq_some hf
    refine ⟨(h.rows p hm).1, ?_⟩
    have : p.2.2.length ≤ pagesOf L := by
      unfold pagesOf
      exact le_sum (List.mem_map.2 ⟨p, hm, rfl⟩)
    exact Nat.le_trans this h.small
end Go.Proofs.Ytnpdnnaemfdinaa.F
