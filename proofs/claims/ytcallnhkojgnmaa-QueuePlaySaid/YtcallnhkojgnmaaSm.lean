/- The law's own test: two lists held against each other. Conditions: they lie readable. -/
import Derived.Test.YtcallnhkojgnmaaRfb
namespace Go.Proofs.Ytcallnhkojgnmaa.Q
open Go.RowKit Go.Sort Go.Shelf
open Go.Proofs.Ytcallnhkojgnmaa.Ma
set_option linter.unusedVariables false
set_option linter.unusedSimpArgs false
theorem neq37 (x1 x2 x3 x4 y1 y2 y3 y4 : Int) (w : World) : (binOp .neq 37 (.agg #[.int .i64 x1, .int .i64 x2, .int .i64 x3, .int .i64 x4]) (.agg #[.int .i64 y1, .int .i64 y2, .int .i64 y3, .int .i64 y4])).run Try.prog w = .ok (.bool (!decide (x1 = y1 ∧ x2 = y2 ∧ x3 = y3 ∧ x4 = y4))) w := by
  have u3 := Try.underlying3
  have a3 := Try.isAgg3
  have z3 := Try.sizeOf3
  have hS : Try.prog.underlying 37 = some (.struct (Try.prog.fieldsOf 37)) := by kernel_rfl
  have hp : Try.prog.stoodInHeld 37 = false := by kernel_rfl
  rw [run_neq_struct, show (10000 : Nat) = 9999 + 1 from rfl, run_equalIn_agg w 9999 37 _ _ hS hp]
  simp only [Program.fieldsOf, Try.underlying37]
  go_simp
  by_cases h1 : x1 = y1 <;> by_cases h2 : x2 = y2 <;> by_cases h3 : x3 = y3 <;> by_cases h4 : x4 = y4 <;> simp [h1, h2, h3, h4]
theorem same_at (A1 A2 : Option Addr) (c1 c2 : Nat) (L : List It) (w : World) (h1 : Lies enc4 4 w A1 L) (h2 : Lies enc4 4 w A2 L) (hlen : L.length ≤ 1000000) :
    Calls Try.prog 20 #[.slice A1 L.length c1, .slice A2 L.length c2] w fun e w' => e = .returned (.bool true) ∧ ∃ m, w' = w.drewN m := by
  have H1 := Lib.hid h1
  have H2 := Lib.hid h2
  have HLen := Lib.hid hlen
  clear h1 h2
  go_enter Try.func20, Try.ntmps20
  go_wp2
  go_loopw [5] (fun i wr => ∃ (j m : Nat), j ≤ L.length ∧ i = .int .i64 j ∧ wr = w.drewN m) (fun i _ => L.length - (intOf i).toNat)
  case atStart => exact ⟨0, 0, by omega, rfl, rfl⟩
  case round =>
    obtain ⟨j, m, hj, rfl, rfl⟩ := hrel
    by_cases hlt : j < L.length
    · obtain ⟨⟨x1, x2, x3, x4⟩, hx⟩ : ∃ p, L[j]? = some p := ⟨L[j], List.getElem?_eq_getElem _⟩
      obtain ⟨b1, o1, rfl, hb1, p0, p1, p2, p3⟩ := lies4 H1.out hx
      obtain ⟨b2, o2, rfl, hb2, q0, q1, q2, q3⟩ := lies4 H2.out hx
      have neq := neq37 x1 x2 x3 x4 x1 x2 x3 x4
      rw [show decide (x1 = x1 ∧ x2 = x2 ∧ x3 = x3 ∧ x4 = x4) = true by simp] at neq
      have i1 : (j : Int) < (L.length : Int) := by omega
      clear hx hb1 hb2 hj
      go_wp2
      go_quiet (fail)
      go_wp2
      go_roundw
      case rel => exact ⟨j + 1, _, by omega, by have := HLen.out; go_num, rfl⟩
      case measure => simp [intOf]; omega
    · obtain rfl : j = L.length := by omega
      go_wp2
      go_ret
      exact ⟨rfl, m, rfl⟩
end Go.Proofs.Ytcallnhkojgnmaa.Q
