/- LedgerPlay at every list. Conditions: the list of deeds lies readable. -/
import Derived.Test.YtdgjhnamfgpgeaaPlay
import Derived.Test.YtdgjhnamfgpgeaaOpn
namespace Go.Proofs.Ytdgjhnamfgpgeaa.Led
open Go.RowKit
open Go.Proofs.Ytdgjhnamfgpgeaa.Ma
theorem play_all (total : Int) (A : Option Addr) (len cap : Nat) (xs : List Deed) (w : World) (h0 : (Lit.int .u64 total).wf = true) (hl : len ≤ 9223372036854775807) (hd : IsDeeds w A len xs) : Calls Try.prog 3 #[.int .u64 total, .slice A len cap] w fun e w' => e = .returned (.bool true) ∧ Below w.heap.size w w' := by
  have a := u64_wf h0
  by_cases h : 200 < len
  · exact play_great total A len cap w hl h
  · by_cases h2 : total = 0
    · subst h2
      exact play_zero A len cap w (by omega)
    · exact play_at total A len cap xs w (by have := a.1; omega) a.2 (by omega) hd
end Go.Proofs.Ytdgjhnamfgpgeaa.Led
