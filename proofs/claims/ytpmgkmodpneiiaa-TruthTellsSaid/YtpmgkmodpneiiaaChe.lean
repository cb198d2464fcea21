/- TruthChecks: the law walked. -/
import Derived.Test.YtpmgkmodpneiiaaRnd
import Derived.Lib.QuietBelow
namespace Go.Proofs.Ytpmgkmodpneiiaa.E
open Go.RowKit Go.Sort Go.Shelf
open Go.Proofs.Ytpmgkmodpneiiaa.Ma
set_option linter.unusedVariables false
set_option linter.unusedSimpArgs false
attribute [local irreducible] wpQuiet
set_option maxRecDepth 100000 in
set_option maxHeartbeats 4000000 in
theorem checks_at (k a p d n : Int) (w : World) : Calls Try.prog 9 #[rq k a p d, .int .i64 n] w fun e w' => e = .returned (.bool true) ∧ Below w.heap.size w w' := by
  obtain ⟨W, hW, hbl, c0, c1, c2, c3⟩ := box4 w k a p d
  have HB := Lib.hid hbl
  have C1 := Lib.hid (fun V => chk_at k a p d n V)
  have C2 := Lib.hid (fun V => rchk_at k a p d n V)
  have C3 := Lib.hid (fun V => bound_at k a p d n V)
  have C4 := Lib.hid (fun V => rbound_at k a p d n V)
  have C5 := Lib.hid (fun V => round_at V)
  have s0 := fun d os => cell_regrown c0 d os
  have s1 := fun d os => cell_regrown c1 d os
  have s2 := fun d os => cell_regrown c2 d os
  have s3 := fun d os => cell_regrown c3 d os
  clear hbl c0 c1 c2 c3
  go_enter Try.func9, Try.ntmps9
  go_wp2
  refine wp_region_quiet_below (by kernel_rfl) (by kernel_rfl) ?_
  repeat (quiet_step (first | (go_at_call 19; exact Calls.regrown_of (C1.out _)) | (go_at_call 20; exact Calls.regrown_of (C2.out _)) | (go_at_call 21; exact Calls.regrown_of (C3.out _)) | (go_at_call 22; exact Calls.regrown_of (C4.out _)) | (go_at_call 11; exact Calls.regrown_of (C5.out _))))
  refine wpQuiet_nil ?_
  intro w9 hw9
  have B9 := Lib.hid (show Below W.heap.size W w9 by obtain ⟨p, rfl⟩ := hw9; exact below_regrown _ _ _)
  clear hw9
  go_wp2
  go_ret
  exact ⟨rfl, HB.out.trans (B9.out.mono HB.out.size)⟩
end Go.Proofs.Ytpmgkmodpneiiaa.E
