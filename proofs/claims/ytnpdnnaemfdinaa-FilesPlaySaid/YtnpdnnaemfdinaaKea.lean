/- FilesKeep, as its row wants it. Conditions: those that the theorem names. -/
import Derived.Test.YtnpdnnaemfdinaaKep
namespace Go.Proofs.Ytnpdnnaemfdinaa.F
open Go.RowKit Go.Maps Go.Sort Go.Shelf
open Go.Proofs.Ytnpdnnaemfdinaa.Ma
set_option linter.unusedVariables false
set_option linter.unusedSimpArgs false
theorem keep_all (A : Option Addr) (len cap : Nat) (L : List Ac) (s : ByteArray) (A0 A1 : Option Addr) (c0 c1 : Nat) (P0 P1 : List ByteArray) (W : World) (hl : L.length = len) (hm : len ≤ maxLen) (hL : Lies encA 6 W A L) (hA : ∀ a ∈ L, AcAt W a) (hs : s.size ≤ maxLen)
    (hl0 : P0.length ≤ maxLen) (hP0 : Lies encS 1 W A0 P0) (hl1 : P1.length ≤ maxLen) (hP1 : Lies encS 1 W A1 P1) :
    Calls Try.prog 7 #[.slice A len cap, .string s, .agg #[.slice A0 P0.length c0, .slice A1 P1.length c1]] W fun e w' => e = .returned (.bool true) ∧ Below W.heap.size W w' := by
  subst hl
  exact keep_law A cap L s A0 A1 c0 c1 P0 P1 W hL hm hA hs hP0 hl0 hP1 hl1
end Go.Proofs.Ytnpdnnaemfdinaa.F
