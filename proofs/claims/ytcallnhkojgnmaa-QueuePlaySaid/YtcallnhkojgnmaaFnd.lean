/- Where a job stands in the queue; that a queue is none. Conditions: those that each theorem names. -/
import Derived.Test.YtcallnhkojgnmaaSrt
namespace Go.Proofs.Ytcallnhkojgnmaa.Q
open Go.RowKit Go.Sort Go.Shelf
open Go.Proofs.Ytcallnhkojgnmaa.Ma
set_option linter.unusedVariables false
set_option linter.unusedSimpArgs false
theorem ret_i {a b : Int} (h : a = b) : Ending.returned (.int .i64 a) = .returned (.int .i64 b) := by rw [h]
def hasQ (L : List It) (id : Int) : Bool := L.any fun p => p.1 == id
theorem hasQ_iff {L : List It} {k : Int} : hasQ L k = true ↔ ∃ p ∈ L, p.1 = k := by simp [hasQ]
theorem hasQ_false {L : List It} {k : Int} : hasQ L k = false ↔ ∀ p ∈ L, p.1 ≠ k := by simp [hasQ]
/-- Where the number stands first, or one less than none. -/
def plc (L : List It) (id : Int) : Int := if hasQ L id = true then ((L.findIdx fun p => p.1 == id : Nat) : Int) else -1
theorem plc_at {L : List It} {id : Int} {j : Nat} {p : It} (hp : L[j]? = some p) (he : p.1 = id) (h : ∀ q ∈ L.take j, q.1 ≠ id) : plc L id = j := by
  unfold plc
  have hj := (List.getElem?_eq_some_iff.1 hp).1
  rw [if_pos (hasQ_iff.2 ⟨p, List.mem_of_getElem? hp, he⟩)]
  congr 1
  rw [List.findIdx_eq hj]
  refine ⟨?_, fun k hk => ?_⟩
  · have : L[j] = p := by rw [List.getElem?_eq_getElem hj] at hp; exact Option.some.inj hp
    rw [this]
    simpa using he
  · have := h L[k] (by rw [List.mem_take_iff_getElem]; exact ⟨k, by omega, rfl⟩)
    simpa using this
theorem plc_none {L : List It} {id : Int} (h : ∀ q ∈ L, q.1 ≠ id) : plc L id = -1 := by
  unfold plc
  rw [if_neg (by rw [hasQ_false.2 h]; simp)]
theorem plc_out {L : List It} {id : Int} (h : hasQ L id = false) : plc L id = -1 := plc_none (hasQ_false.1 h)
theorem plc_in {L : List It} {id : Int} (h : hasQ L id = true) : ∃ (j : Nat) (p : It), L[j]? = some p ∧ p.1 = id ∧ (∀ q ∈ L.take j, q.1 ≠ id) ∧ plc L id = j := by
  obtain ⟨q, hq, hid⟩ := hasQ_iff.1 h
  have hlt : (L.findIdx fun p => p.1 == id) < L.length := List.findIdx_lt_length_of_exists ⟨q, hq, by simpa using hid⟩
  have hat := List.findIdx_getElem (w := hlt)
  refine ⟨_, _, List.getElem?_eq_getElem hlt, by simpa using hat, fun q hq => ?_, by unfold plc; rw [if_pos h]⟩
  obtain ⟨k, hk, e⟩ := List.mem_take_iff_getElem.1 hq
  have := List.not_of_lt_findIdx (p := fun p : It => p.1 == id) (xs := L) (i := k) (by omega)
  rw [← e]
  simpa using this
/-- The four cells of an item that lies there. -/
theorem lies4 {w : World} {A : Option Addr} {L : List It} (h : Lies enc4 4 w A L) {j : Nat} {x1 x2 x3 x4 : Int} (hx : L[j]? = some (x1, x2, x3, x4)) :
    ∃ b o, A = some ⟨b, o, none⟩ ∧ b < w.heap.size ∧ w.cell? ⟨b, o + j * 4, none⟩ = some (.int .i64 x1) ∧ w.cell? ⟨b, o + j * 4 + 1, none⟩ = some (.int .i64 x2) ∧ w.cell? ⟨b, o + j * 4 + 2, none⟩ = some (.int .i64 x3) ∧ w.cell? ⟨b, o + j * 4 + 3, none⟩ = some (.int .i64 x4) := by
  obtain ⟨b, o, e, hb, hc⟩ := h j _ hx
  exact ⟨b, o, e, hb, hc 0 _ rfl, hc 1 _ rfl, hc 2 _ rfl, hc 3 _ rfl⟩
theorem clo_any (x1 x2 x3 x4 id : Int) (bi : Nat) (w : World) (hc : w.cell? ⟨bi, 0, none⟩ = some (.int .i64 id)) (hb : bi < w.heap.size) :
    Calls Try.prog 32 #[.agg #[.int .i64 x1, .int .i64 x2, .int .i64 x3, .int .i64 x4], .pointer (some ⟨bi, 0, none⟩)] w fun e w' => e = .returned (.bool (x1 == id)) ∧ Below w.heap.size w w' := by
  have hne : bi ≠ w.heap.size := by omega
  go_enter Try.func32, Try.ntmps32
  go_wp2
  all_goals
    go_ret
    exact ⟨by simp_all, (Below.refl _ _).alloc (Nat.le_refl _) _⟩
theorem idx_at (A : Option Addr) (c : Nat) (L : List It) (id : Int) (bi : Nat) (w : World) (hL : Lies enc4 4 w A L) (hlen : L.length ≤ 1000000) (hc : w.cell? ⟨bi, 0, none⟩ = some (.int .i64 id)) (hb : bi < w.heap.size) :
    Calls Try.prog 31 #[.slice A L.length c, .func (.func 32) #[] #[.pointer (some ⟨bi, 0, none⟩)]] w fun e w' => e = .returned (.int .i64 (plc L id)) ∧ Below w.heap.size w w' := by
  have HL := Lib.hid hL
  clear hL
  go_enter Try.func31, Try.ntmps31
  go_wp2
  go_loopw [5, 8] (fun _ i wr => ∃ j : Nat, j ≤ L.length ∧ i = .int .i64 j ∧ (∀ q ∈ L.take j, q.1 ≠ id) ∧ Below w.heap.size w wr) (fun _ i _ => L.length - (intOf i).toNat)
  case atStart => exact ⟨0, by omega, rfl, fun q hq => by simp at hq, Below.refl _ _⟩
  case round =>
    obtain ⟨j, hj, rfl, hq, hbl⟩ := hrel
    have HQ := Lib.hid hq
    have HB := Lib.hid hbl
    have hc' := (hbl.cell (p := ⟨bi, 0, none⟩) hb).trans hc
    have hb' : bi < wr.heap.size := Nat.lt_of_lt_of_le hb hbl.size
    clear hq hbl
    by_cases hlt : j < L.length
    · obtain ⟨⟨x1, x2, x3, x4⟩, hx⟩ : ∃ p, L[j]? = some p := ⟨L[j], List.getElem?_eq_getElem _⟩
      obtain ⟨b, o, rfl, hbl, q0, q1, q2, q3⟩ := lies4 (HL.out.below HB.out (Nat.le_refl _)) hx
      have hclo := clo_any x1 x2 x3 x4 id bi wr hc' hb'
      have HX := Lib.hid hx
      clear hx
      by_cases he : x1 = id
      · have e1 : (x1 == id) = true := by simpa using he
        rw [e1] at hclo
        have HC := Lib.hid hclo
        have HE := Lib.hid he
        clear he hclo e1
        go_wp2_with (go_at_call 32; refine HC.out.mono ?_; rintro e w2 ⟨rfl, hb2⟩)
        go_ret
        exact ⟨ret_i (plc_at HX.out HE.out HQ.out).symm, HB.out.trans (hb2.mono HB.out.size)⟩
      · have e1 : (x1 == id) = false := by simpa using he
        rw [e1] at hclo
        have HC := Lib.hid hclo
        have HE := Lib.hid he
        clear he hclo e1
        go_wp2_with (go_at_call 32; refine HC.out.mono ?_; rintro e w2 ⟨rfl, hb2⟩)
        go_roundw
        case rel =>
          refine ⟨j + 1, by omega, by go_num, fun q hq => ?_, HB.out.trans (hb2.mono HB.out.size)⟩
          rw [List.take_add_one, HX.out] at hq
          simp only [Option.toList_some, List.mem_append, List.mem_singleton] at hq
          rcases hq with hq | rfl
          · exact HQ.out q hq
          · exact HE.out
        case measure => simp [intOf]; omega
    · obtain rfl : j = L.length := by omega
      go_wp2
      go_ret
      exact ⟨ret_i (plc_none (fun p hp => HQ.out p (by rwa [List.take_length]))).symm, HB.out⟩
/-- A queue lies in block b, its list in memory from B on. -/
def QAt (B : Nat) (w : World) (b : Nat) (L : List It) (v : Value) : Prop :=
  w.heap[b]? = some (.cells #[.bool true, v] 51 (0, 0)) ∧ w.ownsRow B 31 4 v L.length (cellsK enc4 L)
section
variable {B : Nat} {w : World} {b : Nat} {L : List It} {v : Value}
theorem QAt.c0 (h : QAt B w b L v) : w.cell? ⟨b, 0, none⟩ = some (.bool true) := cell_of_heap h.1 rfl
theorem QAt.c1 (h : QAt B w b L v) : w.cell? ⟨b, 1, none⟩ = some v := cell_of_heap h.1 rfl
theorem QAt.f1 (h : QAt B w b L v) : w.frozen? ⟨b, 1, none⟩ = false := free_of_heap h.1 (by simp)
theorem own_block {e : TypeId} {k n : Nat} {xs : List Value} (h : w.ownsRow B e k v n xs) {g : Nat} (hg : v.ownBlock = some g) : ∃ cur, w.heap[g]? = some (.cells cur e (0, 0)) := by
  rcases h.2 with ⟨rfl, hn⟩ | ⟨g', cap, cur, rfl, hb, hg', _⟩
  · simp [Value.ownBlock] at hg
  · simp [Value.ownBlock] at hg
    subst hg
    exact ⟨_, hg'⟩
theorem QAt.ne (h : QAt B w b L v) : ∀ g, v.ownBlock = some g → g ≠ b := by
  rintro g hg rfl
  obtain ⟨cur, hc⟩ := own_block h.2 hg
  rw [h.1] at hc
  cases hc
theorem QAt.kept {S : Nat → Prop} {w' : World} (h : QAt B w b L v) (hf : Fr S w w') (hb : ¬ S b) (hv : ∀ g, v.ownBlock = some g → ¬ S g) : QAt B w' b L v := ⟨hf.keep h.1 hb, hf.row h.2 hv⟩
theorem QAt.below {w' : World} (h : QAt B w b L v) (hb : Below w.heap.size w w') : QAt B w' b L v := h.kept (Fr.of_below hb) (fun e => e) (fun _ _ e => e)
theorem QAt.drewN (h : QAt B w b L v) (m : Nat) : QAt B (w.drewN m) b L v := h
end
theorem new_at (w : World) (B : Nat) : Calls Try.prog 10 #[] w fun e w' => e = .returned (.pointer (some ⟨w.heap.size, 0, none⟩)) ∧ QAt B w' w.heap.size [] (.slice none 0 0) ∧ Below w.heap.size w w' := by
  go_enter Try.func10, Try.ntmps10
  go_wp2
  go_ret
  exact ⟨rfl, ⟨heap_alloc_new w _, World.ownsRow_nil _ _ _ _⟩, (Below.refl _ _).alloc (Nat.le_refl _) _⟩
theorem none_at (b : Nat) (w : World) (h : w.cell? ⟨b, 0, none⟩ = some (.bool true)) : Calls Try.prog 23 #[.pointer (some ⟨b, 0, none⟩)] w fun e w' => e = .returned (.bool false) ∧ w = w' := by
  go_enter Try.func23, Try.ntmps23
  go_wp2
  go_ret
  exact ⟨rfl, rfl⟩
/-- A queue that is none: nil, or one that was not made. -/
def IsNone (w : World) (p : Option Addr) : Prop := p = none ∨ ∃ b, p = some ⟨b, 0, none⟩ ∧ b < w.heap.size ∧ w.cell? ⟨b, 0, none⟩ = some (.bool false)
theorem none_true (p : Option Addr) (w : World) (h : IsNone w p) : Calls Try.prog 23 #[.pointer p] w fun e w' => e = .returned (.bool true) ∧ w = w' := by
  rcases h with rfl | ⟨b, rfl, _, h⟩
  · go_enter Try.func23, Try.ntmps23
    go_wp2
    go_ret
    exact ⟨rfl, rfl⟩
  · go_enter Try.func23, Try.ntmps23
    go_wp2
    go_ret
    exact ⟨rfl, rfl⟩
theorem find_at (B b : Nat) (L : List It) (v : Value) (id : Int) (w : World) (h : QAt B w b L v) (hlen : L.length ≤ 1000000) :
    Calls Try.prog 24 #[.pointer (some ⟨b, 0, none⟩), .int .i64 id] w fun e w' => e = .returned (.int .i64 (plc L id)) ∧ Below w.heap.size w w' := by
  have c1 := h.c1
  have hb := lt_of_heap h.1
  obtain ⟨A, c, rfl, _, _⟩ := row_open enc4_len h.2
  have hli := row_lies enc4_len h.2
  have hidx := idx_at A c L id w.heap.size (w.alloc (.cells #[.int .i64 id] 3)) (hli.below ((Below.refl _ _).alloc (Nat.le_refl _) _) (Nat.le_refl _)) hlen (by simp) (by simp)
  have HI := Lib.hid hidx
  clear h hli hidx
  go_enter Try.func24, Try.ntmps24
  go_wp2_with (go_at_call 31; refine HI.out.mono ?_; rintro e w2 ⟨rfl, hb2⟩)
  go_ret
  exact ⟨rfl, ((Below.refl _ _).alloc (Nat.le_refl _) _).trans (hb2.mono (by simp))⟩
end Go.Proofs.Ytcallnhkojgnmaa.Q
