/- What the document's scan does, each function once: it lies as how many, where, and a list of who waits, rising. Conditions: those that each theorem names. -/
import Derived.Laws.OwnMore
import Derived.Test.YtfmicncpaaioaaaStp
namespace Go.Proofs.Ytfmicncpaaioaaa.Sc
open Go.RowKit Go.Maps Go.Sort Go.Shelf
open Go.Proofs.Ytfmicncpaaioaaa.Ma
set_option linter.unusedVariables false
set_option linter.unusedSimpArgs false
def cellsOf (L : List Ent) : List Value := L.flatMap fun p => [Value.int .i64 p.1, Value.bool p.2]
theorem cellsOf_length (L : List Ent) : (cellsOf L).length = L.length * 2 := by
  induction L with
  | nil => rfl
  | cons y r ih => simp only [cellsOf, List.flatMap_cons, List.length_append, List.length_cons, List.length_nil] at ih ⊢; omega
theorem cellsOf_append (L M : List Ent) : cellsOf (L ++ M) = cellsOf L ++ cellsOf M := by simp [cellsOf]
theorem cellsOf_at {L : List Ent} : ∀ {j : Nat} {p : Ent}, L[j]? = some p → (cellsOf L)[j * 2]? = some (.int .i64 p.1) ∧ (cellsOf L)[j * 2 + 1]? = some (.bool p.2) := by
  induction L with
  | nil => intro j p h; simp at h
  | cons y r ih =>
    intro j p h
    cases j with
    | zero => simp at h; subst h; simp [cellsOf]
    | succ j =>
      have := ih (j := j) (p := p) (by simpa using h)
      rw [show (j + 1) * 2 = j * 2 + 1 + 1 by omega]
      simpa [cellsOf] using this
/-- The document's scan: in block rb, its list in memory from B on. -/
def RefAt (B : Nat) (w : World) (rb : Nat) (n a : Int) (L : List Ent) (v : Value) : Prop :=
  w.heap[rb]? = some (.cells #[.int .i64 n, .int .i64 a, v] 41 (0, 0)) ∧ w.ownsRow B 59 2 v L.length (cellsOf L)
section
variable {B : Nat} {w : World} {rb : Nat} {n a : Int} {L : List Ent} {v : Value}
theorem RefAt.c0 (h : RefAt B w rb n a L v) : w.cell? ⟨rb, 0, none⟩ = some (.int .i64 n) := cell_of_heap h.1 rfl
theorem RefAt.c1 (h : RefAt B w rb n a L v) : w.cell? ⟨rb, 1, none⟩ = some (.int .i64 a) := cell_of_heap h.1 rfl
theorem RefAt.c2 (h : RefAt B w rb n a L v) : w.cell? ⟨rb, 2, none⟩ = some v := cell_of_heap h.1 rfl
theorem RefAt.f1 (h : RefAt B w rb n a L v) : w.frozen? ⟨rb, 1, none⟩ = false := free_of_heap h.1 (by simp)
theorem RefAt.f2 (h : RefAt B w rb n a L v) : w.frozen? ⟨rb, 2, none⟩ = false := free_of_heap h.1 (by simp)
theorem row_cells (h : w.ownsRow B 59 2 v L.length (cellsOf L)) :
    ∃ A c, v = .slice A L.length c ∧ L.length ≤ c ∧ c ≤ 9223372036854775807 ∧ (A = none → L = [] ∧ c = 0) ∧ ∀ a, A = some a → ∃ g, a = ⟨g, 0, none⟩ ∧ B ≤ g ∧ g < w.heap.size ∧ (∃ cur, w.heap[g]? = some (.cells cur 59 (0, 0))) ∧ ∀ j p, L[j]? = some p → w.cell? ⟨g, j * 2, none⟩ = some (.int .i64 p.1) ∧ w.cell? ⟨g, j * 2 + 1, none⟩ = some (.bool p.2) := by
  rcases h.2 with ⟨rfl, hn⟩ | ⟨g, cap, cur, rfl, hb, hg, hc, hm, hcs, hcur⟩
  · refine ⟨none, 0, by rw [hn], by omega, by omega, fun _ => ⟨List.length_eq_zero_iff.1 hn, rfl⟩, fun a ha => by cases ha⟩
  · refine ⟨_, cap, rfl, hc, by unfold maxLen at hm; omega, (fun e => by cases e), fun a ha => ?_⟩
    cases ha
    refine ⟨g, rfl, hb, lt_of_heap hg, ⟨cur, hg⟩, fun j p hp => ?_⟩
    have hj := (List.getElem?_eq_some_iff.1 hp).1
    have e := cellsOf_at hp
    rw [← hcur, List.getElem?_take_of_lt (by omega), List.getElem?_take_of_lt (by omega)] at e
    exact ⟨cell_of_heap hg (by simpa using e.1), cell_of_heap hg (by simpa using e.2)⟩
theorem RefAt.ne (h : RefAt B w rb n a L v) : ∀ g, v.ownBlock = some g → g ≠ rb := by
  rintro g hg rfl
  rcases h.2.2 with ⟨rfl, hn⟩ | ⟨g', cap, cur, rfl, hb, hg', _⟩
  · simp [Value.ownBlock] at hg
  · simp [Value.ownBlock] at hg
    subst hg
    rw [h.1] at hg'
    cases hg'
theorem RefAt.kept {S : Nat → Prop} {w' : World} (h : RefAt B w rb n a L v) (hf : Fr S w w') (hb : ¬ S rb) (hv : ∀ g, v.ownBlock = some g → ¬ S g) : RefAt B w' rb n a L v := ⟨hf.keep h.1 hb, hf.row h.2 hv⟩
end
theorem ret_i {a b : Int} (h : a = b) : Ending.returned (.int .i64 a) = .returned (.int .i64 b) := by rw [h]
/-- Where the number stands, or one less than none. -/
def plc (L : List Ent) (id : Int) : Int := if Ma.has L id = true then ((L.findIdx fun p => p.1 == id : Nat) : Int) else -1
theorem plc_at {L : List Ent} {id : Int} {j : Nat} {p : Ent} (hp : L[j]? = some p) (he : p.1 = id) (h : ∀ q ∈ L.take j, q.1 ≠ id) : plc L id = j := by
  unfold plc
  have hj := (List.getElem?_eq_some_iff.1 hp).1
  rw [if_pos (has_iff.2 ⟨p, List.mem_of_getElem? hp, he⟩)]
  congr 1
  rw [List.findIdx_eq hj]
  refine ⟨?_, fun k hk => ?_⟩
  · have : L[j] = p := by rw [List.getElem?_eq_getElem hj] at hp; exact Option.some.inj hp
    rw [this]
    simpa using he
  · have := h L[k] (by rw [List.mem_take_iff_getElem]; exact ⟨k, by omega, rfl⟩)
    simpa using this
theorem plc_none {L : List Ent} {id : Int} (h : ∀ q ∈ L, q.1 ≠ id) : plc L id = -1 := by
  unfold plc
  rw [if_neg (by rw [has_false.2 h]; simp)]
theorem rnew_at (n : Int) (w : World) (h0 : 1 ≤ n) (h1 : n ≤ 16) (B : Nat) :
    Calls Try.prog 10 #[.int .i64 n] w fun e w' => e = .returned (.tuple #[.pointer (some ⟨w.heap.size, 0, none⟩), .int .i64 0]) ∧ RefAt B w' w.heap.size n (-1) [] (.slice none 0 0) ∧ Below w.heap.size w w' := by
  go_enter Try.func10, Try.ntmps10
  go_wp2
  go_ret2
  exact ⟨rfl, ⟨heap_alloc_new w _, World.ownsRow_nil _ _ _ _⟩, (Below.refl _ _).alloc (Nat.le_refl _) _⟩
theorem rnew_bad (n : Int) (w : World) (h : n < 1 ∨ 16 < n) : Calls Try.prog 10 #[.int .i64 n] w fun e w' => e = .returned (.tuple #[.pointer none, .int .i64 2]) ∧ w = w' := by
  by_cases h1 : n < 1
  · go_enter Try.func10, Try.ntmps10
    go_wp2
    go_ret2
    exact ⟨rfl, rfl⟩
  · have h2 : 16 < n := by omega
    go_enter Try.func10, Try.ntmps10
    go_wp2
    go_ret2
    exact ⟨rfl, rfl⟩
theorem place_at (B rb : Nat) (n a id : Int) (L : List Ent) (v : Value) (w : World) (h : RefAt B w rb n a L v) :
    Calls Try.prog 25 #[.pointer (some ⟨rb, 0, none⟩), .int .i64 id] w fun e w' => e = .returned (.int .i64 (plc L id)) ∧ w = w' := by
  obtain ⟨A, c, rfl, hc, hcm, hn, hA⟩ := row_cells h.2
  have c2 := h.c2
  have HN := Lib.hid hn
  have HA := Lib.hid hA
  clear h hn hA
  go_enter Try.func25, Try.ntmps25
  go_wp2
  go_loop [5] (fun i => ∃ j : Nat, j ≤ L.length ∧ i = .int .i64 j ∧ ∀ q ∈ L.take j, q.1 ≠ id) (fun i => L.length - (intOf i).toNat)
  case atStart => exact ⟨0, by omega, rfl, fun q hq => by simp at hq⟩
  case round =>
    obtain ⟨j, hj, rfl, hq⟩ := hrel
    have HQ := Lib.hid hq
    clear hq
    by_cases hlt : j < L.length
    · obtain ⟨⟨x, y⟩, hx⟩ : ∃ p, L[j]? = some p := ⟨L[j], List.getElem?_eq_getElem _⟩
      obtain ⟨a, rfl⟩ : ∃ a, A = some a := by
        cases A with
        | none => have := (HN.out rfl).1; rw [this] at hlt; simp at hlt
        | some a => exact ⟨a, rfl⟩
      obtain ⟨g, rfl, _, _, _, hcell⟩ := HA.out a rfl
      obtain ⟨d0, d1⟩ := hcell j _ hx
      have HX := Lib.hid hx
      clear hx hcell
      by_cases he : x = id
      · have e1 : (x == id) = true := by simpa using he
        have HE := Lib.hid he
        clear he
        go_wp2
        go_ret
        exact ⟨ret_i (plc_at HX.out HE.out HQ.out).symm, rfl⟩
      · have e1 : (x == id) = false := by simpa using he
        go_wp2
        go_round
        case rel =>
          refine ⟨j + 1, by omega, by go_num, fun q hq => ?_⟩
          rw [List.take_add_one, HX.out] at hq
          simp only [Option.toList_some, List.mem_append, List.mem_singleton] at hq
          rcases hq with hq | rfl
          · exact HQ.out q hq
          · exact he
        case measure => simp [intOf]; omega
    · obtain rfl : j = L.length := by omega
      go_wp2
      go_ret
      exact ⟨ret_i (plc_none (fun p hp => HQ.out p (by rwa [List.take_length]))).symm, rfl⟩
end Go.Proofs.Ytfmicncpaaioaaa.Sc
