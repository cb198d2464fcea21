/- shards: what a shard is, in memory and plainly; may, many, list, Check. Conditions: those that each theorem names. -/
import Derived.Test.YtdlmkdldmiiaiaaGen
namespace Go.Proofs.Ytdlmkdldmiiaiaa.E
open Go.RowKit Go.Sort Go.Shelf
open Go.Proofs.Ytdlmkdldmiiaiaa.Ma Go.Proofs.Ytdlmkdldmiiaiaa.By Go.Proofs.Ytdlmkdldmiiaiaa.Enc
set_option linter.unusedVariables false
set_option linter.unusedSimpArgs false
/-- Lists of numbers that lie there, each in its own slice. -/
def LiesR (w : World) (A : Option Addr) (O : List (List Int)) : Prop :=
  ∀ j L, O[j]? = some L → ∃ b o, A = some ⟨b, o, none⟩ ∧ b < w.heap.size ∧ ∃ A' c', w.cell? ⟨b, o + j, none⟩ = some (.slice A' L.length c') ∧ L.length ≤ c' ∧ c' ≤ 9223372036854775807 ∧ Lies encI 1 w A' L
theorem LiesR.below {w w' : World} {A : Option Addr} {O : List (List Int)} (h : LiesR w A O) {B : Nat} (hb : Below B w w') (hB : w.heap.size ≤ B) : LiesR w' A O := fun j L hL => by
  obtain ⟨b, o, e, hl, A', c', hc, h1, h2, h3⟩ := h j L hL
  exact ⟨b, o, e, Nat.lt_of_lt_of_le hl hb.size, A', c', (hb.cell (p := ⟨b, o + j, none⟩) (by show b < B; omega)).trans hc, h1, h2, h3.below hb hB⟩
abbrev partV (lo hi : Int) : Value := .agg #[.int .i64 lo, .int .i64 hi]
abbrev shV (lo hi : Int) (A : Option Addr) (n c : Nat) : Value := .agg #[.int .i64 lo, .int .i64 hi, .slice A n c]
def mayC (lo hi : Int) : Bool := decide (0 ≤ lo) && (decide (lo < hi) && decide (hi ≤ 256))
theorem may_at (lo hi : Int) (w : World) : Calls Try.prog 29 #[partV lo hi] w fun e w' => e = .returned (.bool (mayC lo hi)) ∧ Below w.heap.size w w' := by
  unfold partV
  have hb : Below w.heap.size w (w.alloc (.cells #[.int .i64 lo, .int .i64 hi] 24)) := (Below.refl _ _).alloc (Nat.le_refl _) _
  have HB := Lib.hid hb
  unfold mayC
  by_cases h0 : 0 ≤ lo
  · have b0 : decide (0 ≤ lo) = true := decide_eq_true h0
    by_cases h1 : lo < hi
    · have b1 : decide (lo < hi) = true := decide_eq_true h1
      by_cases h2 : hi ≤ 256
      · have b2 : decide (hi ≤ 256) = true := decide_eq_true h2
        clear hb
        go_enter Try.func29, Try.ntmps29
        go_wp2
        go_ret
        exact ⟨by simp [b0, b1, b2], HB.out⟩
      · have b2 : decide (hi ≤ 256) = false := decide_eq_false h2
        clear hb
        go_enter Try.func29, Try.ntmps29
        go_wp2
        go_ret
        exact ⟨by simp [b0, b1, b2], HB.out⟩
    · have b1 : decide (lo < hi) = false := decide_eq_false h1
      clear hb
      go_enter Try.func29, Try.ntmps29
      go_wp2
      go_ret
      exact ⟨by simp [b0, b1], HB.out⟩
  · have b0 : decide (0 ≤ lo) = false := decide_eq_false h0
    clear hb
    go_enter Try.func29, Try.ntmps29
    go_wp2
    go_ret
    exact ⟨by simp [b0], HB.out⟩
def manyC (O : List (List Int)) : Nat := (O.map List.length).sum
theorem manyC_take {O : List (List Int)} {k : Nat} {L : List Int} (h : O[k]? = some L) : manyC (O.take (k + 1)) = manyC (O.take k) + L.length := by
  unfold manyC
  rw [List.take_add_one, h]
  simp
theorem manyC_le (O : List (List Int)) (k : Nat) : manyC (O.take k) ≤ manyC O := by
  have : manyC O = manyC (O.take k) + manyC (O.drop k) := by
    unfold manyC
    rw [← List.sum_append, ← List.map_append, List.take_append_drop]
  omega
theorem many_len {O : List (List Int)} {k : Nat} {L : List Int} (h : O[k]? = some L) : L.length ≤ manyC O := by
  have h1 := manyC_take h
  have h2 := manyC_le O (k + 1)
  omega
theorem liesR1 {w : World} {A : Option Addr} {O : List (List Int)} (h : LiesR w A O) {j : Nat} {L : List Int} (hx : O[j]? = some L) :
    ∃ b o A' c', A = some ⟨b, o, none⟩ ∧ b < w.heap.size ∧ w.cell? ⟨b, o + j, none⟩ = some (.slice A' L.length c') ∧ L.length ≤ c' ∧ c' ≤ 9223372036854775807 ∧ Lies encI 1 w A' L := by
  obtain ⟨b, o, e, hl, A', c', hc, h1, h2, h3⟩ := h j L hx
  exact ⟨b, o, A', c', e, hl, hc, h1, h2, h3⟩
theorem box28 (w : World) (lo hi : Int) (A : Option Addr) (n c : Nat) : ∃ W, w.alloc (.cells #[.int .i64 lo, .int .i64 hi, .slice A n c] 28 (0, 0)) = W ∧ W.cell? ⟨w.heap.size, 0, none⟩ = some (.int .i64 lo) ∧ W.cell? ⟨w.heap.size, 1, none⟩ = some (.int .i64 hi) ∧ W.cell? ⟨w.heap.size, 2, none⟩ = some (.slice A n c) ∧ Below w.heap.size w W ∧ W.heap.size = w.heap.size + 1 := by
  obtain ⟨W, e, h, hb, hs⟩ := box_new w (.cells #[.int .i64 lo, .int .i64 hi, .slice A n c] 28 (0, 0))
  exact ⟨W, e, cell_of_heap h rfl, cell_of_heap h rfl, cell_of_heap h rfl, hb, hs⟩
set_option maxRecDepth 100000 in
set_option maxHeartbeats 1000000 in
theorem many_at (lo hi : Int) (A : Option Addr) (c : Nat) (O : List (List Int)) (w : World) (hL : LiesR w A O) (hl : O.length ≤ 1000000) (hm : manyC O ≤ 1000000) :
    Calls Try.prog 42 #[shV lo hi A O.length c] w fun e w' => e = .returned (.int .i64 (manyC O : Nat)) ∧ Below w.heap.size w w' := by
  unfold shV
  obtain ⟨W, hW, g0, g1, g2, hbW, hsW⟩ := box28 w lo hi A O.length c
  have HL := Lib.hid (hL.below hbW (Nat.le_refl _))
  have HB := Lib.hid hbW
  have HN := Lib.hid hl
  have HM := Lib.hid hm
  clear hL hl hm hbW hsW g0 g1
  go_enter Try.func42, Try.ntmps42
  go_wp2

  go_loop [3, 9] (fun x i => ∃ (k m : Nat), x = .int .i64 (m : Int) ∧ i = .int .i64 (k : Int) ∧ k ≤ O.length ∧ m = manyC (O.take k)) (fun _ i => O.length - (intOf i).toNat)
  case atStart => exact ⟨0, 0, rfl, rfl, by omega, rfl⟩
  case round =>
    obtain ⟨k, m, rfl, rfl, hk, hmm⟩ := hrel
    by_cases hlt : k < O.length
    · obtain ⟨x, hx⟩ : ∃ p, O[k]? = some p := ⟨O[k], List.getElem?_eq_getElem _⟩
      obtain ⟨b, o, A', c', rfl, _, hc, _, _, _⟩ := liesR1 HL.out hx
      have i1 : (k : Int) < (O.length : Int) := by omega
      have i2 : (k : Int) < 1000000 := by have := HN.out; omega
      have HK := Lib.hid hlt
      have HMM := Lib.hid (manyC_take hx)
      have hle := manyC_le O k
      have hle2 := many_len hx
      obtain ⟨n, hn⟩ : ∃ n, x.length = n := ⟨_, rfl⟩
      rw [← hmm, hn] at HMM
      rw [hn] at hc hle2
      have i3 : (m : Int) ≤ 1000000 := by have := HM.out; omega
      have i4 : (n : Int) ≤ 1000000 := by have := HM.out; omega
      clear hx hk hlt hmm hle hn hle2
      go_wp2
      go_round
      case rel => exact ⟨k + 1, m + n, by go_num, by go_num, HK.out, HMM.out.symm⟩
      case measure => have := HK.out; simp [intOf]; omega
    · obtain rfl : k = O.length := by omega
      rw [List.take_length] at hmm
      subst hmm
      clear hk hlt
      go_wp2
      go_ret
      exact ⟨rfl, HB.out⟩
end Go.Proofs.Ytdlmkdldmiiaiaa.E
