/- ScanPlay at every list. Conditions: the list of moves lies readable. -/
import Derived.Test.YtfmicncpaaioaaaPlayB
import Derived.Test.YtfmicncpaaioaaaOpn
namespace Go.Proofs.Ytfmicncpaaioaaa.Sc
open Go.RowKit
open Go.Proofs.Ytfmicncpaaioaaa.Ma
theorem play_all (n : Int) (A : Option Addr) (len cap : Nat) (xs : List (Int × Int)) (w : World) (hl : len ≤ 9223372036854775807) (hd : IsMoves w A len xs) : Calls Try.prog 3 #[.int .i64 n, .slice A len cap] w fun e w' => e = .returned (.bool true) ∧ Below w.heap.size w w' := by
  by_cases h : 300 < len
  · exact play_great n A len cap w hl h
  · by_cases h2 : n < 1 ∨ 16 < n
    · exact play_bad n h2 A len cap w (by omega)
    · exact play_at n A len cap xs w (by omega) (by omega) (by omega) hd
end Go.Proofs.Ytfmicncpaaioaaa.Sc
