/-
  No cell of these rows narrows 'for every input' (looked for: loops, veiled, ifaces, maps, wideKeys, modest, calm, conditions, laid).
  DERIVED. THE GIVEN ROWS OF THIS SEAT. 4 by the template 'for every input the law returns true; each argument reads behind the call as it read before'; 0 by the template 'total and deterministic' (their statements: YtnbdplhbkennfaaTotals.lean).
  GIVEN WITH THE SEED: the statements are not yours to turn. If you find one false, say at which input.
  Laid BY PROGRAM, IN A SANDBOX (cutbox-rows.mjs): the forced cells as the released guide's own fill.sh prints them over the translation 4d8f8c6583913f5f… (all of the seat's roots in one cut). By AI agents, Wed Nov 11 2026. No macro, syntax, notation, axiom, sorry.
-/
import Derived.Test.YtnbdplhbkennfaaChecked
import GoSem.Claim
import GoSem.ClaimJoined
import GoSem.ClaimMapViews
import Derived.JoinedTies
import Derived.KernelRfl
namespace Go.Proofs.Ytnbdplhbkennfaa
/- THE CELL 'sum', in the pinned program and in every row, IS THE sha256 OF THE DUMP (.gsa) THAT YtnbdplhbkennfaaProg.lean LOADS. Nothing in Lean hashes anything: it is a label: what it is worth is what the hold of that sum in a sandbox is worth. -/
noncomputable def Try.pinned : Pinned := { name := "ytnbdplhbkennfaa", sum := "4d8f8c6583913f5f73a9b793b0462632409689660ef8d95835fcc21e420fbab5", checked := Try.checked }
namespace Rows
def none {H : Type} : Left H := { results := [], args := [] }

/-- 'carousellaw11.ManifestTell': WHATEVER THE INPUT: true; the input reads as it did. -/
def manifestTellSpec : ChangeSpec := { name := "manifestTell", fn := fun _ => fun
  | [d1, d2] => { results := [.lit (.bool true)], args := [d1, d2] }
  | _ => none }
def manifestTellRow : OpenClaim := { program := "ytnbdplhbkennfaa", sum := "4d8f8c6583913f5f73a9b793b0462632409689660ef8d95835fcc21e420fbab5", func := "carousel/carousellaw11.ManifestTell", spec := "manifestTell", inPlace := ["internal/abi.NoEscape", "internal/bytealg.MakeNoZero"], unfollowed := true, recurses := true, apart := false }
def ManifestTellSaid : Prop := manifestTellRow.holds Try.pinned (OpenSpec.ofChange manifestTellSpec)

/-- ITS FALSE NEIGHBOUR: 'it returns false'. Refute it at one input. -/
def manifestTellWrong : ChangeSpec := { name := "manifestTell", fn := fun _ => fun
  | [d1, d2] => { results := [.lit (.bool false)], args := [d1, d2] }
  | _ => none }
def ManifestTellWrongFalsely : Prop := manifestTellRow.holds Try.pinned (OpenSpec.ofChange manifestTellWrong)

/-- 'carousellaw11.ManifestBack': WHATEVER THE INPUT: true; the input reads as it did. -/
def manifestBackSpec : ChangeSpec := { name := "manifestBack", fn := fun _ => fun
  | [d1, d2, d3] => { results := [.lit (.bool true)], args := [d1, d2, d3] }
  | _ => none }
def manifestBackRow : OpenClaim := { program := "ytnbdplhbkennfaa", sum := "4d8f8c6583913f5f73a9b793b0462632409689660ef8d95835fcc21e420fbab5", func := "carousel/carousellaw11.ManifestBack", spec := "manifestBack", inPlace := ["internal/abi.NoEscape", "internal/bytealg.MakeNoZero"], unfollowed := true, recurses := true, apart := false }
def ManifestBackSaid : Prop := manifestBackRow.holds Try.pinned (OpenSpec.ofChange manifestBackSpec)

/-- ITS FALSE NEIGHBOUR: 'it returns false'. Refute it at one input. -/
def manifestBackWrong : ChangeSpec := { name := "manifestBack", fn := fun _ => fun
  | [d1, d2, d3] => { results := [.lit (.bool false)], args := [d1, d2, d3] }
  | _ => none }
def ManifestBackWrongFalsely : Prop := manifestBackRow.holds Try.pinned (OpenSpec.ofChange manifestBackWrong)

/-- 'carousellaw11.ManifestWay': WHATEVER THE INPUT: true; the input reads as it did. -/
def manifestWaySpec : ChangeSpec := { name := "manifestWay", fn := fun _ => fun
  | [d] => { results := [.lit (.bool true)], args := [d] }
  | _ => none }
def manifestWayRow : OpenClaim := { program := "ytnbdplhbkennfaa", sum := "4d8f8c6583913f5f73a9b793b0462632409689660ef8d95835fcc21e420fbab5", func := "carousel/carousellaw11.ManifestWay", spec := "manifestWay", inPlace := ["internal/abi.NoEscape", "internal/bytealg.MakeNoZero"], unfollowed := true, recurses := true, apart := false }
def ManifestWaySaid : Prop := manifestWayRow.holds Try.pinned (OpenSpec.ofChange manifestWaySpec)

/-- ITS FALSE NEIGHBOUR: 'it returns false'. Refute it at one input. -/
def manifestWayWrong : ChangeSpec := { name := "manifestWay", fn := fun _ => fun
  | [d] => { results := [.lit (.bool false)], args := [d] }
  | _ => none }
def ManifestWayWrongFalsely : Prop := manifestWayRow.holds Try.pinned (OpenSpec.ofChange manifestWayWrong)

/-- 'carousellaw11.ManifestTurned': WHATEVER THE INPUT: true; the input reads as it did. -/
def manifestTurnedSpec : ChangeSpec := { name := "manifestTurned", fn := fun _ => fun
  | [d1, d2, d3] => { results := [.lit (.bool true)], args := [d1, d2, d3] }
  | _ => none }
def manifestTurnedRow : OpenClaim := { program := "ytnbdplhbkennfaa", sum := "4d8f8c6583913f5f73a9b793b0462632409689660ef8d95835fcc21e420fbab5", func := "carousel/carousellaw11.ManifestTurned", spec := "manifestTurned", inPlace := ["internal/abi.NoEscape", "internal/bytealg.MakeNoZero"], unfollowed := true, recurses := true, apart := false }
def ManifestTurnedSaid : Prop := manifestTurnedRow.holds Try.pinned (OpenSpec.ofChange manifestTurnedSpec)

/-- ITS FALSE NEIGHBOUR: 'it returns false'. Refute it at one input. -/
def manifestTurnedWrong : ChangeSpec := { name := "manifestTurned", fn := fun _ => fun
  | [d1, d2, d3] => { results := [.lit (.bool false)], args := [d1, d2, d3] }
  | _ => none }
def ManifestTurnedWrongFalsely : Prop := manifestTurnedRow.holds Try.pinned (OpenSpec.ofChange manifestTurnedWrong)

/- THE SECOND FORM. 'bulk': how many values and letters a reading holds, each counted each time it is reached (what is shared counts as often as it is met; a slice's spare places count too). A statement '..UptoSaid' is the law's where the arguments, and the package variables that the reading takes, are together of bulk at most 1048576: NARROWER than '..Said'. Prove '..Said' where nothing that the law and all that it calls make is longer than what came in: it says more and counts as full. Else prove '..UptoSaid'. A law counts once. -/
mutual
def uptoBulk {H : Type} : DataW H → Nat
  | .lit (.string bytes) => bytes.length + 1
  | .lit _ => 1
  | .nil => 1
  | .ptr d => uptoBulk d + 1
  | .slice elems spare => uptoBulkAll elems + uptoBulkAll spare + 1
  | .agg parts => uptoBulkAll parts + 1
  | .iface _ d => uptoBulk d + 1
  | .map entries => uptoBulkEntries entries + 1
  | .held _ => 1
def uptoBulkAll {H : Type} : List (DataW H) → Nat
  | [] => 0
  | d :: r => uptoBulk d + uptoBulkAll r
def uptoBulkEntries {H : Type} : List (Lit × DataW H) → Nat
  | [] => 0
  | x :: r => uptoBulkEntry x + uptoBulkEntries r
def uptoBulkEntry {H : Type} : Lit × DataW H → Nat
  | (.string bytes, d) => bytes.length + uptoBulk d + 1
  | (_, d) => uptoBulk d + 1
 end
def uptoSmall : (H : Type) → List (DataW H) → Bool := fun _ ds => decide (uptoBulkAll ds ≤ 1048576)
def OpenSpec.upto (s : _root_.Go.ChangeSpec) : _root_.Go.OpenSpec := { _root_.Go.OpenSpec.ofChange s with cond := some uptoSmall }

/-- 'carousellaw11.ManifestTell', WHERE WHAT IT READS IS OF BULK AT MOST 1048576: true; the input reads as it did. -/
def manifestTellUptoRow : OpenClaim := { program := "ytnbdplhbkennfaa", sum := "4d8f8c6583913f5f73a9b793b0462632409689660ef8d95835fcc21e420fbab5", func := "carousel/carousellaw11.ManifestTell", spec := "manifestTell", inPlace := ["internal/abi.NoEscape", "internal/bytealg.MakeNoZero"], unfollowed := true, recurses := true, apart := false, narrowed := true }
def ManifestTellUptoSaid : Prop := manifestTellUptoRow.holds Try.pinned (OpenSpec.upto manifestTellSpec)

/-- 'carousellaw11.ManifestBack', WHERE WHAT IT READS IS OF BULK AT MOST 1048576: true; the input reads as it did. -/
def manifestBackUptoRow : OpenClaim := { program := "ytnbdplhbkennfaa", sum := "4d8f8c6583913f5f73a9b793b0462632409689660ef8d95835fcc21e420fbab5", func := "carousel/carousellaw11.ManifestBack", spec := "manifestBack", inPlace := ["internal/abi.NoEscape", "internal/bytealg.MakeNoZero"], unfollowed := true, recurses := true, apart := false, narrowed := true }
def ManifestBackUptoSaid : Prop := manifestBackUptoRow.holds Try.pinned (OpenSpec.upto manifestBackSpec)

/-- 'carousellaw11.ManifestWay', WHERE WHAT IT READS IS OF BULK AT MOST 1048576: true; the input reads as it did. -/
def manifestWayUptoRow : OpenClaim := { program := "ytnbdplhbkennfaa", sum := "4d8f8c6583913f5f73a9b793b0462632409689660ef8d95835fcc21e420fbab5", func := "carousel/carousellaw11.ManifestWay", spec := "manifestWay", inPlace := ["internal/abi.NoEscape", "internal/bytealg.MakeNoZero"], unfollowed := true, recurses := true, apart := false, narrowed := true }
def ManifestWayUptoSaid : Prop := manifestWayUptoRow.holds Try.pinned (OpenSpec.upto manifestWaySpec)

/-- 'carousellaw11.ManifestTurned', WHERE WHAT IT READS IS OF BULK AT MOST 1048576: true; the input reads as it did. -/
def manifestTurnedUptoRow : OpenClaim := { program := "ytnbdplhbkennfaa", sum := "4d8f8c6583913f5f73a9b793b0462632409689660ef8d95835fcc21e420fbab5", func := "carousel/carousellaw11.ManifestTurned", spec := "manifestTurned", inPlace := ["internal/abi.NoEscape", "internal/bytealg.MakeNoZero"], unfollowed := true, recurses := true, apart := false, narrowed := true }
def ManifestTurnedUptoSaid : Prop := manifestTurnedUptoRow.holds Try.pinned (OpenSpec.upto manifestTurnedSpec)

end Rows
end Go.Proofs.Ytnbdplhbkennfaa
