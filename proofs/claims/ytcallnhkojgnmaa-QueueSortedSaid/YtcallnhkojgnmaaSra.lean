/- QueueSorted at all arguments. No condition but that they read. -/
import Derived.Test.YtcallnhkojgnmaaSor
import Derived.Test.YtcallnhkojgnmaaOpb
namespace Go.Proofs.Ytcallnhkojgnmaa.Q
open Go.RowKit Go.Sort Go.Shelf
open Go.Proofs.Ytcallnhkojgnmaa.Ma
theorem u8_wf' {x : Int} (h : (Lit.int .u8 x).wf = true) : 0 ≤ x ∧ x ≤ 255 := by
  simp only [Lit.wf, IntKind.min, IntKind.max, IntKind.signed, IntKind.bits] at h
  simp at h
  omega
theorem sorted_all (A : Option Addr) (len cap : Nat) (xs : List It) (y : Int) (w : World) (hl : len ≤ 9223372036854775807) (hlen : xs.length = len) (hL : Lies enc4 4 w A xs) (hy : (Lit.int .u8 y).wf = true) : Calls Try.prog 7 #[.slice A len cap, .int .u8 y] w fun e w' => e = .returned (.bool true) ∧ Below w.heap.size w w' := by
  by_cases h : len ≤ 8
  · exact sorted_at A len cap xs y w h hlen hL (u8_wf' hy)
  · exact sorted_great A len cap y w hl (by omega)
end Go.Proofs.Ytcallnhkojgnmaa.Q
