/- FilesPlay, as its row wants it. Conditions: those that the theorem names. -/
import Derived.Test.YtnpdnnaemfdinaaPly
namespace Go.Proofs.Ytnpdnnaemfdinaa.F
open Go.RowKit Go.Maps Go.Sort Go.Shelf
open Go.Proofs.Ytnpdnnaemfdinaa.Ma
set_option linter.unusedVariables false
set_option linter.unusedSimpArgs false
theorem play_all (room : Int) (A : Option Addr) (len cap : Nat) (L : List Ac) (W : World) (hl : L.length = len) (hm : len ≤ maxLen) (hL : Lies encA 6 W A L) (hA : ∀ a ∈ L, AcAt W a) :
    Calls Try.prog 5 #[.int .i64 room, .slice A len cap] W fun e w' => e = .returned (.bool true) ∧ Below W.heap.size W w' := by
  subst hl
  exact play_law room A cap L W hL hm hA
end Go.Proofs.Ytnpdnnaemfdinaa.F
