/- EdgesOrder at all arguments. No condition but that they read. -/
import Derived.Test.YtfehlnmkeniniaaOdr
import Derived.Test.YtfehlnmkeniniaaMna
namespace Go.Proofs.Ytfehlnmkeniniaa.E
open Go.RowKit Go.Sort Go.Shelf
open Go.Proofs.Ytfehlnmkeniniaa.Ma
set_option linter.unusedVariables false
set_option linter.unusedSimpArgs false
set_option maxRecDepth 100000 in
theorem order_great (A : Option Addr) (len cap : Nat) (x z : Int) (w : World) (hl : len ≤ 9223372036854775807) (h2 : 400 < len) : Calls Try.prog 4 #[.int .u8 x, .slice A len cap, .int .u16 z] w fun e w' => e = .returned (.bool true) ∧ Below w.heap.size w w' := by
  have h3 : (400 : Int) < len := by omega
  go_enter Try.func4, Try.ntmps4
  go_wp2
  go_ret
  exact ⟨rfl, Below.refl _ _⟩
theorem order_all (A : Option Addr) (len cap : Nat) (x z : Int) (P : List Ed) (w : World) (hx8 : (Lit.int .u8 x).wf = true) (hz : (Lit.int .u16 z).wf = true) (hc : len ≤ 9223372036854775807) (hlen : P.length = len) (hL : Lies enc8 2 w A P) (hb8 : ∀ p ∈ P, (0 ≤ p.1 ∧ p.1 ≤ 255) ∧ 0 ≤ p.2 ∧ p.2 ≤ 255) : Calls Try.prog 4 #[.int .u8 x, .slice A len cap, .int .u16 z] w fun e w' => e = .returned (.bool true) ∧ Below w.heap.size w w' := by
  by_cases h : len ≤ 400
  · exact order_at A len cap x z P w (u8_wf hx8) (u16_wf hz) h hlen hL hb8
  · exact order_great A len cap x z w hc (by omega)
end Go.Proofs.Ytfehlnmkeniniaa.E
