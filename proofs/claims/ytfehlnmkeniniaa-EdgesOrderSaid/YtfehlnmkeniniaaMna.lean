/- EdgesMany at all arguments. No condition but that they read. -/
import Derived.Test.YtfehlnmkeniniaaMan
import Derived.Test.YtfehlnmkeniniaaDga
namespace Go.Proofs.Ytfehlnmkeniniaa.E
open Go.RowKit Go.Sort Go.Shelf
open Go.Proofs.Ytfehlnmkeniniaa.Ma
theorem u16_wf {x : Int} (h : (Lit.int .u16 x).wf = true) : 0 ≤ x ∧ x ≤ 65535 := by
  simp only [Lit.wf, IntKind.min, IntKind.max, IntKind.signed, IntKind.bits] at h
  simp at h
  omega
theorem many_all (x y z : Int) (w : World) (hx : (Lit.int .u8 x).wf = true) (hy : (Lit.int .u8 y).wf = true) (hz : (Lit.int .u16 z).wf = true) : Calls Try.prog 7 #[.int .u8 x, .int .u8 y, .int .u16 z] w fun e w' => e = .returned (.bool true) ∧ Below w.heap.size w w' :=
  many_at x y z w (u8_wf hx) (u8_wf hy) (u16_wf hz)
end Go.Proofs.Ytfehlnmkeniniaa.E
