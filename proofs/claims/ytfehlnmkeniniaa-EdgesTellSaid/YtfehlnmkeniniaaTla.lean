/- EdgesTell at all arguments. No condition but that they read. -/
import Derived.Test.YtfehlnmkeniniaaTel
import Derived.Test.YtfehlnmkeniniaaOpn
namespace Go.Proofs.Ytfehlnmkeniniaa.E
open Go.RowKit Go.Sort Go.Shelf
open Go.Proofs.Ytfehlnmkeniniaa.Ma
set_option linter.unusedVariables false
set_option linter.unusedSimpArgs false
set_option maxRecDepth 100000 in
theorem tell_great (A : Option Addr) (len cap : Nat) (n v : Int) (w : World) (hl : len ≤ 9223372036854775807) (h2 : 300 < len) : Calls Try.prog 3 #[.int .i64 n, .slice A len cap, .int .i64 v] w fun e w' => e = .returned (.bool true) ∧ Below w.heap.size w w' := by
  have h3 : (300 : Int) < len := by omega
  go_enter Try.func3, Try.ntmps3
  go_wp2
  go_ret
  exact ⟨rfl, Below.refl _ _⟩
theorem tell_all (A : Option Addr) (len cap : Nat) (n v : Int) (L : List Ed) (w : World) (hc : len ≤ cap ∧ cap ≤ 9223372036854775807 ∧ (A = none → cap = 0)) (hlen : L.length = len) (hL : Lies enc2 2 w A L) : Calls Try.prog 3 #[.int .i64 n, .slice A len cap, .int .i64 v] w fun e w' => e = .returned (.bool true) ∧ Below w.heap.size w w' := by
  by_cases h : len ≤ 300
  · exact tell_at A len cap n v L w h hlen hc.1 hc.2.1 hc.2.2 hL
  · exact tell_great A len cap n v w (by omega) (by omega)
end Go.Proofs.Ytfehlnmkeniniaa.E
