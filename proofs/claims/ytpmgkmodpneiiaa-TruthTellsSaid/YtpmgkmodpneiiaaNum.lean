/- Numbers; rows of uint64. Conditions: those that each theorem names. -/
import Derived.Test.YtpmgkmodpneiiaaRch
namespace Go.Proofs.Ytpmgkmodpneiiaa.E
open Go.RowKit Go.Sort Go.Shelf
open Go.Proofs.Ytpmgkmodpneiiaa.Ma
set_option linter.unusedVariables false
set_option linter.unusedSimpArgs false
abbrev encU (x : Int) : List Value := [.int .u64 x]
theorem encU_len (x : Int) : (encU x).length = 1 := rfl
theorem liesU {w : World} {A : Option Addr} {L : List Int} (h : Lies encU 1 w A L) {j : Nat} {x : Int} (hx : L[j]? = some x) : ∃ g o, A = some ⟨g, o, none⟩ ∧ g < w.heap.size ∧ w.cell? ⟨g, o + j, none⟩ = some (.int .u64 x) := by
  obtain ⟨g, o, e, hg, hc⟩ := h j x hx
  have q := hc 0 _ rfl
  simp only [Nat.mul_one, Nat.add_zero] at q
  exact ⟨g, o, e, hg, q⟩
set_option maxRecDepth 100000 in
theorem numbers_at (A1 A2 : Option Addr) (c1 c2 : Nat) (L : List Int) (w : World) (h1 : Lies encU 1 w A1 L) (h2 : Lies encU 1 w A2 L) (hlen : L.length ≤ 1000000) :
    Calls Try.prog 15 #[.slice A1 L.length c1, .slice A2 L.length c2] w fun e w' => e = .returned (.bool true) ∧ ∃ m, w' = w.drewN m := by
  have H1 := Lib.hid h1
  have H2 := Lib.hid h2
  have HLen := Lib.hid hlen
  clear h1 h2
  go_enter Try.func15, Try.ntmps15
  go_wp2
  go_loopw [5] (fun i wr => ∃ (j m : Nat), j ≤ L.length ∧ i = .int .i64 j ∧ wr = w.drewN m) (fun i _ => L.length - (intOf i).toNat)
  case atStart => exact ⟨0, 0, by omega, rfl, rfl⟩
  case round =>
    obtain ⟨j, m, hj, rfl, rfl⟩ := hrel
    by_cases hlt : j < L.length
    · obtain ⟨x, hx⟩ : ∃ p, L[j]? = some p := ⟨L[j], List.getElem?_eq_getElem _⟩
      obtain ⟨b1, o1, rfl, hb1, p0⟩ := liesU H1.out hx
      obtain ⟨b2, o2, rfl, hb2, q0⟩ := liesU H2.out hx
      have i1 : (j : Int) < (L.length : Int) := by omega
      clear hx hb1 hb2 hj
      go_wp2
      go_quiet (fail)
      go_wp2
      go_roundw
      case rel => exact ⟨j + 1, _, by omega, by have := HLen.out; go_num, rfl⟩
      case measure => simp [intOf]; omega
    · obtain rfl : j = L.length := by omega
      go_wp2
      go_ret
      exact ⟨rfl, m, rfl⟩
end Go.Proofs.Ytpmgkmodpneiiaa.E
