/- EdgesBack at all arguments. No condition but that they read. -/
import Derived.Test.YtfehlnmkeniniaaBak
import Derived.Test.YtfehlnmkeniniaaOpn
namespace Go.Proofs.Ytfehlnmkeniniaa.E
open Go.RowKit Go.Sort Go.Shelf
open Go.Proofs.Ytfehlnmkeniniaa.Ma
set_option linter.unusedVariables false
set_option linter.unusedSimpArgs false
set_option maxRecDepth 100000 in
theorem back_great (A : Option Addr) (len cap : Nat) (w : World) (hl : len ≤ 9223372036854775807) (h2 : 400 < len) : Calls Try.prog 5 #[.slice A len cap] w fun e w' => e = .returned (.bool true) ∧ Below w.heap.size w w' := by
  have h3 : (400 : Int) < len := by omega
  go_enter Try.func5, Try.ntmps5
  go_wp2
  go_ret
  exact ⟨rfl, Below.refl _ _⟩
theorem back_all (A : Option Addr) (len cap : Nat) (L : List Ed) (w : World) (hc : len ≤ cap ∧ cap ≤ 9223372036854775807 ∧ (A = none → cap = 0)) (hlen : L.length = len) (hL : Lies enc2 2 w A L) : Calls Try.prog 5 #[.slice A len cap] w fun e w' => e = .returned (.bool true) ∧ Below w.heap.size w w' := by
  by_cases h : len ≤ 400
  · exact back_at A len cap L w h hlen hL
  · exact back_great A len cap w (by omega) (by omega)
end Go.Proofs.Ytfehlnmkeniniaa.E
