/- Texts, Played, all. Conditions: those that each theorem names. -/
import Derived.Test.YtnpdnnaemfdinaaOpn
namespace Go.Proofs.Ytnpdnnaemfdinaa.F
open Go.RowKit Go.Maps Go.Sort Go.Shelf
open Go.Proofs.Ytnpdnnaemfdinaa.Ma
set_option linter.unusedVariables false
set_option linter.unusedSimpArgs false
theorem lies_s {w : World} {A : Option Addr} {L : List ByteArray} (h : Lies encS 1 w A L) {j : Nat} {y : ByteArray} (hy : L[j]? = some y) : ∃ g o, A = some ⟨g, o, none⟩ ∧ g < w.heap.size ∧ w.cell? ⟨g, o + j, none⟩ = some (.string y) := by
  obtain ⟨g, o, e, hg, hc⟩ := h j y hy
  have q := hc 0 _ rfl
  simp only [Nat.mul_one, Nat.add_zero] at q
  exact ⟨g, o, e, hg, q⟩
set_option maxRecDepth 100000 in
theorem texts_at (A A' : Option Addr) (c c' : Nat) (L : List ByteArray) (w : World) (h : Lies encS 1 w A L) (h' : Lies encS 1 w A' L) (hlen : L.length ≤ 1000000) :
    Calls Try.prog 23 #[.slice A L.length c, .slice A' L.length c'] w fun e w' => e = .returned (.bool true) ∧ Below w.heap.size w w' := by
  have H := Lib.hid h
  have H' := Lib.hid h'
  clear h h'
  go_enter Try.func23, Try.ntmps23
  go_wp2
  go_loopw [5] (fun i wi => ∃ k : Nat, k ≤ L.length ∧ i = .int .i64 k ∧ Below w.heap.size w wi) (fun i _ => L.length - (intOf i).toNat)
  case atStart => exact ⟨0, by omega, rfl, Below.refl _ _⟩
  case round =>
    obtain ⟨k, hk, rfl, hb⟩ := hrel
    have HB := Lib.hid hb
    by_cases hlt : k < L.length
    · obtain ⟨y, hy⟩ : ∃ y, L[k]? = some y := ⟨_, List.getElem?_eq_getElem hlt⟩
      obtain ⟨g, o, e, _, q⟩ := lies_s (H.out.below hb (Nat.le_refl _)) hy
      obtain ⟨g', o', e', _, q'⟩ := lies_s (H'.out.below hb (Nat.le_refl _)) hy
      subst e e'
      have i1 : (k : Int) < (L.length : Int) := by omega
      clear hb hy
      go_wp2
      go_quiet (fail)
      go_wp2
      go_roundw
      case rel => exact ⟨k + 1, by omega, by go_num, HB.out.trans ((below_drewNg wr _).mono HB.out.size)⟩
      case measure => simp [intOf]; omega
    · obtain rfl : k = L.length := by omega
      go_wp2
      go_ret
      exact ⟨rfl, HB.out⟩
set_option maxRecDepth 100000 in
theorem played_at (A : Option Addr) (c : Nat) (L : List Ac) (w : World) (h : Lies encA 6 w A L) (hA : ∀ a ∈ L, AcOk w a) (hlen : L.length ≤ 1000000) :
    Calls Try.prog 32 #[.slice A L.length c] w fun e w' => ∃ b bm left D, e = .returned (.pointer (some ⟨b, 0, none⟩)) ∧ FsX (fun k => k < w.heap.size) w' b bm 60 left D ∧ Below w.heap.size w w' := by
  have H := Lib.hid h
  have HA := Lib.hid hA
  clear h hA
  go_enter Try.func32, Try.ntmps32
  go_wp2_with (go_at_call 10; refine (new_at 60 _ (by decide) (by decide)).mono ?_; rintro e w1 ⟨b, bm, rfl, h1, hb1⟩; have H1 := Lib.hid h1; have B1 := Lib.hid hb1; clear h1 hb1)
  go_loopw [5] (fun i wi => ∃ (k : Nat) (left : Int) (D : List De), k ≤ L.length ∧ i = .int .i64 k ∧ FsX (fun k => k < w.heap.size) wi b bm 60 left D ∧ Below w.heap.size w wi) (fun i _ => L.length - (intOf i).toNat)
  case atStart => exact ⟨0, _, _, by omega, rfl, H1.out, B1.out⟩
  case round =>
    obtain ⟨k, left, D, hk, rfl, hx, hb⟩ := hrel
    have HB := Lib.hid hb
    have HX := Lib.hid hx
    by_cases hlt : k < L.length
    · obtain ⟨a, ha⟩ : ∃ y, L[k]? = some y := ⟨_, List.getElem?_eq_getElem hlt⟩
      have hok := HA.out a (List.mem_of_getElem? ha)
      have hat := hok.toAcAt.below hb
      obtain ⟨g, o, e, hg, hc⟩ := (H.out.below hb (Nat.le_refl _)) k a ha
      subst e
      have q0 := hc 0 _ rfl
      rw [Nat.add_zero] at q0
      have q1 := hc 1 _ rfl
      have q2 := hc 2 _ rfl
      have q3 := hc 3 _ rfl
      have q4 := hc 4 _ rfl
      have q5 := hc 5 _ rfl
      have HD := Lib.hid (done_at a hat (by have := hok.few; omega) hx)
      have i1 : (k : Int) < (L.length : Int) := by omega
      clear hb hx ha hok hat hg hc
      generalize doneF 60 left D a = r at HD
      obtain ⟨k', s', A', c', P', i', t', x'⟩ := a
      dsimp only at HD q0 q1 q2 q3 q4 q5
      generalize P'.length = n' at HD q2
      generalize (x'.toNat : Int) = z' at HD q5
      go_wp2_with (go_at_call 21; refine HD.out.mono ?_; rintro e w2 ⟨rfl, h2, hf2⟩; have H2 := Lib.hid h2; have B2 := Lib.hid (fr_low HB.out hf2); clear h2 hf2)
      go_roundw
      case rel => exact ⟨k + 1, _, _, by omega, by go_num, H2.out, B2.out⟩
      case measure => simp [intOf]; omega
    · obtain rfl : k = L.length := by omega
      go_wp2
      go_ret
      exact ⟨_, _, _, _, rfl, HX.out, HB.out⟩
end Go.Proofs.Ytnpdnnaemfdinaa.F
