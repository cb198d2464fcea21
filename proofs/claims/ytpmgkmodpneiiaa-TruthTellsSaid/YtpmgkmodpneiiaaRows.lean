/-
  No cell of these rows narrows 'for every input' (looked for: loops, veiled, ifaces, maps, wideKeys, modest, calm, conditions, laid).
  DERIVED. THE GIVEN ROWS OF THIS SEAT. 8 by the template 'for every input the law returns true; each argument reads behind the call as it read before'; 0 by the template 'total and deterministic' (their statements: YtpmgkmodpneiiaaTotals.lean).
  GIVEN WITH THE SEED: the statements are not yours to turn. If you find one false, say at which input.
  Laid BY PROGRAM, IN A SANDBOX (cutbox-rows.mjs): the forced cells as the released guide's own fill.sh prints them over the translation a2deda36da4cfa60… (all of the seat's roots in one cut). By AI agents, Wed Nov 11 2026. No macro, syntax, notation, axiom, sorry.
-/
import Derived.Test.YtpmgkmodpneiiaaChecked
import GoSem.Claim
import GoSem.ClaimJoined
import GoSem.ClaimMapViews
import Derived.JoinedTies
import Derived.KernelRfl
namespace Go.Proofs.Ytpmgkmodpneiiaa
/- THE CELL 'sum', in the pinned program and in every row, IS THE sha256 OF THE DUMP (.gsa) THAT YtpmgkmodpneiiaaProg.lean LOADS. Nothing in Lean hashes anything: it is a label: what it is worth is what the hold of that sum in a sandbox is worth. -/
noncomputable def Try.pinned : Pinned := { name := "ytpmgkmodpneiiaa", sum := "a2deda36da4cfa60d4f065a8bfc9eb8c48e21d9065b42a76ebe4b5ff6023eca1", checked := Try.checked }
namespace Rows
def none {H : Type} : Left H := { results := [], args := [] }

/-- 'carousellaw16.TruthTells': WHATEVER THE INPUT: true; the input reads as it did. -/
def truthTellsSpec : ChangeSpec := { name := "truthTells", fn := fun _ => fun
  | [d1, d2, d3] => { results := [.lit (.bool true)], args := [d1, d2, d3] }
  | _ => none }
def truthTellsRow : OpenClaim := { program := "ytpmgkmodpneiiaa", sum := "a2deda36da4cfa60d4f065a8bfc9eb8c48e21d9065b42a76ebe4b5ff6023eca1", func := "carousel/carousellaw16.TruthTells", spec := "truthTells", unfollowed := true, recurses := true, apart := false }
def TruthTellsSaid : Prop := truthTellsRow.holds Try.pinned (OpenSpec.ofChange truthTellsSpec)

/-- ITS FALSE NEIGHBOUR: 'it returns false'. Refute it at one input. -/
def truthTellsWrong : ChangeSpec := { name := "truthTells", fn := fun _ => fun
  | [d1, d2, d3] => { results := [.lit (.bool false)], args := [d1, d2, d3] }
  | _ => none }
def TruthTellsWrongFalsely : Prop := truthTellsRow.holds Try.pinned (OpenSpec.ofChange truthTellsWrong)

/-- 'carousellaw16.TruthDrawn': WHATEVER THE INPUT: true; the input reads as it did. -/
def truthDrawnSpec : ChangeSpec := { name := "truthDrawn", fn := fun _ => fun
  | [d1, d2] => { results := [.lit (.bool true)], args := [d1, d2] }
  | _ => none }
def truthDrawnRow : OpenClaim := { program := "ytpmgkmodpneiiaa", sum := "a2deda36da4cfa60d4f065a8bfc9eb8c48e21d9065b42a76ebe4b5ff6023eca1", func := "carousel/carousellaw16.TruthDrawn", spec := "truthDrawn", unfollowed := true, recurses := true, apart := false }
def TruthDrawnSaid : Prop := truthDrawnRow.holds Try.pinned (OpenSpec.ofChange truthDrawnSpec)

/-- ITS FALSE NEIGHBOUR: 'it returns false'. Refute it at one input. -/
def truthDrawnWrong : ChangeSpec := { name := "truthDrawn", fn := fun _ => fun
  | [d1, d2] => { results := [.lit (.bool false)], args := [d1, d2] }
  | _ => none }
def TruthDrawnWrongFalsely : Prop := truthDrawnRow.holds Try.pinned (OpenSpec.ofChange truthDrawnWrong)

/-- 'carousellaw16.TruthFar': WHATEVER THE INPUT: true; the input reads as it did. -/
def truthFarSpec : ChangeSpec := { name := "truthFar", fn := fun _ => fun
  | [d1, d2] => { results := [.lit (.bool true)], args := [d1, d2] }
  | _ => none }
def truthFarRow : OpenClaim := { program := "ytpmgkmodpneiiaa", sum := "a2deda36da4cfa60d4f065a8bfc9eb8c48e21d9065b42a76ebe4b5ff6023eca1", func := "carousel/carousellaw16.TruthFar", spec := "truthFar", unfollowed := true, recurses := true, apart := false }
def TruthFarSaid : Prop := truthFarRow.holds Try.pinned (OpenSpec.ofChange truthFarSpec)

/-- ITS FALSE NEIGHBOUR: 'it returns false'. Refute it at one input. -/
def truthFarWrong : ChangeSpec := { name := "truthFar", fn := fun _ => fun
  | [d1, d2] => { results := [.lit (.bool false)], args := [d1, d2] }
  | _ => none }
def TruthFarWrongFalsely : Prop := truthFarRow.holds Try.pinned (OpenSpec.ofChange truthFarWrong)

/-- 'carousellaw16.TruthLabels': WHATEVER THE INPUT: true; the input reads as it did. -/
def truthLabelsSpec : ChangeSpec := { name := "truthLabels", fn := fun _ => fun
  | [d] => { results := [.lit (.bool true)], args := [d] }
  | _ => none }
def truthLabelsRow : OpenClaim := { program := "ytpmgkmodpneiiaa", sum := "a2deda36da4cfa60d4f065a8bfc9eb8c48e21d9065b42a76ebe4b5ff6023eca1", func := "carousel/carousellaw16.TruthLabels", spec := "truthLabels", unfollowed := true, recurses := true, apart := false }
def TruthLabelsSaid : Prop := truthLabelsRow.holds Try.pinned (OpenSpec.ofChange truthLabelsSpec)

/-- ITS FALSE NEIGHBOUR: 'it returns false'. Refute it at one input. -/
def truthLabelsWrong : ChangeSpec := { name := "truthLabels", fn := fun _ => fun
  | [d] => { results := [.lit (.bool false)], args := [d] }
  | _ => none }
def TruthLabelsWrongFalsely : Prop := truthLabelsRow.holds Try.pinned (OpenSpec.ofChange truthLabelsWrong)

/-- 'carousellaw16.TruthCores': WHATEVER THE INPUT: true; the input reads as it did. -/
def truthCoresSpec : ChangeSpec := { name := "truthCores", fn := fun _ => fun
  | [d1, d2] => { results := [.lit (.bool true)], args := [d1, d2] }
  | _ => none }
def truthCoresRow : OpenClaim := { program := "ytpmgkmodpneiiaa", sum := "a2deda36da4cfa60d4f065a8bfc9eb8c48e21d9065b42a76ebe4b5ff6023eca1", func := "carousel/carousellaw16.TruthCores", spec := "truthCores", unfollowed := true, recurses := true, apart := false }
def TruthCoresSaid : Prop := truthCoresRow.holds Try.pinned (OpenSpec.ofChange truthCoresSpec)

/-- ITS FALSE NEIGHBOUR: 'it returns false'. Refute it at one input. -/
def truthCoresWrong : ChangeSpec := { name := "truthCores", fn := fun _ => fun
  | [d1, d2] => { results := [.lit (.bool false)], args := [d1, d2] }
  | _ => none }
def TruthCoresWrongFalsely : Prop := truthCoresRow.holds Try.pinned (OpenSpec.ofChange truthCoresWrong)

/-- 'carousellaw16.TruthRanks': WHATEVER THE INPUT: true; the input reads as it did. -/
def truthRanksSpec : ChangeSpec := { name := "truthRanks", fn := fun _ => fun
  | [d1, d2] => { results := [.lit (.bool true)], args := [d1, d2] }
  | _ => none }
def truthRanksRow : OpenClaim := { program := "ytpmgkmodpneiiaa", sum := "a2deda36da4cfa60d4f065a8bfc9eb8c48e21d9065b42a76ebe4b5ff6023eca1", func := "carousel/carousellaw16.TruthRanks", spec := "truthRanks", unfollowed := true, recurses := true, apart := false }
def TruthRanksSaid : Prop := truthRanksRow.holds Try.pinned (OpenSpec.ofChange truthRanksSpec)

/-- ITS FALSE NEIGHBOUR: 'it returns false'. Refute it at one input. -/
def truthRanksWrong : ChangeSpec := { name := "truthRanks", fn := fun _ => fun
  | [d1, d2] => { results := [.lit (.bool false)], args := [d1, d2] }
  | _ => none }
def TruthRanksWrongFalsely : Prop := truthRanksRow.holds Try.pinned (OpenSpec.ofChange truthRanksWrong)

/-- 'carousellaw16.TruthChecks': WHATEVER THE INPUT: true; the input reads as it did. -/
def truthChecksSpec : ChangeSpec := { name := "truthChecks", fn := fun _ => fun
  | [d1, d2] => { results := [.lit (.bool true)], args := [d1, d2] }
  | _ => none }
def truthChecksRow : OpenClaim := { program := "ytpmgkmodpneiiaa", sum := "a2deda36da4cfa60d4f065a8bfc9eb8c48e21d9065b42a76ebe4b5ff6023eca1", func := "carousel/carousellaw16.TruthChecks", spec := "truthChecks", unfollowed := true, recurses := true, apart := false }
def TruthChecksSaid : Prop := truthChecksRow.holds Try.pinned (OpenSpec.ofChange truthChecksSpec)

/-- ITS FALSE NEIGHBOUR: 'it returns false'. Refute it at one input. -/
def truthChecksWrong : ChangeSpec := { name := "truthChecks", fn := fun _ => fun
  | [d1, d2] => { results := [.lit (.bool false)], args := [d1, d2] }
  | _ => none }
def TruthChecksWrongFalsely : Prop := truthChecksRow.holds Try.pinned (OpenSpec.ofChange truthChecksWrong)

/-- 'carousellaw16.TruthRounds': WHATEVER THE INPUT: true; the input reads as it did. -/
def truthRoundsSpec : ChangeSpec := { name := "truthRounds", fn := fun _ => fun
  | [d1, d2] => { results := [.lit (.bool true)], args := [d1, d2] }
  | _ => none }
def truthRoundsRow : OpenClaim := { program := "ytpmgkmodpneiiaa", sum := "a2deda36da4cfa60d4f065a8bfc9eb8c48e21d9065b42a76ebe4b5ff6023eca1", func := "carousel/carousellaw16.TruthRounds", spec := "truthRounds", unfollowed := true, recurses := true, apart := false }
def TruthRoundsSaid : Prop := truthRoundsRow.holds Try.pinned (OpenSpec.ofChange truthRoundsSpec)

/-- ITS FALSE NEIGHBOUR: 'it returns false'. Refute it at one input. -/
def truthRoundsWrong : ChangeSpec := { name := "truthRounds", fn := fun _ => fun
  | [d1, d2] => { results := [.lit (.bool false)], args := [d1, d2] }
  | _ => none }
def TruthRoundsWrongFalsely : Prop := truthRoundsRow.holds Try.pinned (OpenSpec.ofChange truthRoundsWrong)

/- THE SECOND FORM. 'bulk': how many values and letters a reading holds, each counted each time it is reached (what is shared counts as often as it is met; a slice's spare places count too). A statement '..UptoSaid' is the law's where the arguments, and the package variables that the reading takes, are together of bulk at most 1048576: NARROWER than '..Said'. Prove '..Said' where nothing that the law and all that it calls make is longer than what came in: it says more and counts as full. Else prove '..UptoSaid'. A law counts once. -/
mutual
def uptoBulk {H : Type} : DataW H → Nat
  | .lit (.string bytes) => bytes.length + 1
  | .lit _ => 1
  | .nil => 1
  | .ptr d => uptoBulk d + 1
  | .slice elems spare => uptoBulkAll elems + uptoBulkAll spare + 1
  | .agg parts => uptoBulkAll parts + 1
  | .iface _ d => uptoBulk d + 1
  | .map entries => uptoBulkEntries entries + 1
  | .held _ => 1
def uptoBulkAll {H : Type} : List (DataW H) → Nat
  | [] => 0
  | d :: r => uptoBulk d + uptoBulkAll r
def uptoBulkEntries {H : Type} : List (Lit × DataW H) → Nat
  | [] => 0
  | x :: r => uptoBulkEntry x + uptoBulkEntries r
def uptoBulkEntry {H : Type} : Lit × DataW H → Nat
  | (.string bytes, d) => bytes.length + uptoBulk d + 1
  | (_, d) => uptoBulk d + 1
 end
def uptoSmall : (H : Type) → List (DataW H) → Bool := fun _ ds => decide (uptoBulkAll ds ≤ 1048576)
def OpenSpec.upto (s : _root_.Go.ChangeSpec) : _root_.Go.OpenSpec := { _root_.Go.OpenSpec.ofChange s with cond := some uptoSmall }

/-- 'carousellaw16.TruthTells', WHERE WHAT IT READS IS OF BULK AT MOST 1048576: true; the input reads as it did. -/
def truthTellsUptoRow : OpenClaim := { program := "ytpmgkmodpneiiaa", sum := "a2deda36da4cfa60d4f065a8bfc9eb8c48e21d9065b42a76ebe4b5ff6023eca1", func := "carousel/carousellaw16.TruthTells", spec := "truthTells", unfollowed := true, recurses := true, apart := false, narrowed := true }
def TruthTellsUptoSaid : Prop := truthTellsUptoRow.holds Try.pinned (OpenSpec.upto truthTellsSpec)

/-- 'carousellaw16.TruthDrawn', WHERE WHAT IT READS IS OF BULK AT MOST 1048576: true; the input reads as it did. -/
def truthDrawnUptoRow : OpenClaim := { program := "ytpmgkmodpneiiaa", sum := "a2deda36da4cfa60d4f065a8bfc9eb8c48e21d9065b42a76ebe4b5ff6023eca1", func := "carousel/carousellaw16.TruthDrawn", spec := "truthDrawn", unfollowed := true, recurses := true, apart := false, narrowed := true }
def TruthDrawnUptoSaid : Prop := truthDrawnUptoRow.holds Try.pinned (OpenSpec.upto truthDrawnSpec)

/-- 'carousellaw16.TruthFar', WHERE WHAT IT READS IS OF BULK AT MOST 1048576: true; the input reads as it did. -/
def truthFarUptoRow : OpenClaim := { program := "ytpmgkmodpneiiaa", sum := "a2deda36da4cfa60d4f065a8bfc9eb8c48e21d9065b42a76ebe4b5ff6023eca1", func := "carousel/carousellaw16.TruthFar", spec := "truthFar", unfollowed := true, recurses := true, apart := false, narrowed := true }
def TruthFarUptoSaid : Prop := truthFarUptoRow.holds Try.pinned (OpenSpec.upto truthFarSpec)

/-- 'carousellaw16.TruthLabels', WHERE WHAT IT READS IS OF BULK AT MOST 1048576: true; the input reads as it did. -/
def truthLabelsUptoRow : OpenClaim := { program := "ytpmgkmodpneiiaa", sum := "a2deda36da4cfa60d4f065a8bfc9eb8c48e21d9065b42a76ebe4b5ff6023eca1", func := "carousel/carousellaw16.TruthLabels", spec := "truthLabels", unfollowed := true, recurses := true, apart := false, narrowed := true }
def TruthLabelsUptoSaid : Prop := truthLabelsUptoRow.holds Try.pinned (OpenSpec.upto truthLabelsSpec)

/-- 'carousellaw16.TruthCores', WHERE WHAT IT READS IS OF BULK AT MOST 1048576: true; the input reads as it did. -/
def truthCoresUptoRow : OpenClaim := { program := "ytpmgkmodpneiiaa", sum := "a2deda36da4cfa60d4f065a8bfc9eb8c48e21d9065b42a76ebe4b5ff6023eca1", func := "carousel/carousellaw16.TruthCores", spec := "truthCores", unfollowed := true, recurses := true, apart := false, narrowed := true }
def TruthCoresUptoSaid : Prop := truthCoresUptoRow.holds Try.pinned (OpenSpec.upto truthCoresSpec)

/-- 'carousellaw16.TruthRanks', WHERE WHAT IT READS IS OF BULK AT MOST 1048576: true; the input reads as it did. -/
def truthRanksUptoRow : OpenClaim := { program := "ytpmgkmodpneiiaa", sum := "a2deda36da4cfa60d4f065a8bfc9eb8c48e21d9065b42a76ebe4b5ff6023eca1", func := "carousel/carousellaw16.TruthRanks", spec := "truthRanks", unfollowed := true, recurses := true, apart := false, narrowed := true }
def TruthRanksUptoSaid : Prop := truthRanksUptoRow.holds Try.pinned (OpenSpec.upto truthRanksSpec)

/-- 'carousellaw16.TruthChecks', WHERE WHAT IT READS IS OF BULK AT MOST 1048576: true; the input reads as it did. -/
def truthChecksUptoRow : OpenClaim := { program := "ytpmgkmodpneiiaa", sum := "a2deda36da4cfa60d4f065a8bfc9eb8c48e21d9065b42a76ebe4b5ff6023eca1", func := "carousel/carousellaw16.TruthChecks", spec := "truthChecks", unfollowed := true, recurses := true, apart := false, narrowed := true }
def TruthChecksUptoSaid : Prop := truthChecksUptoRow.holds Try.pinned (OpenSpec.upto truthChecksSpec)

/-- 'carousellaw16.TruthRounds', WHERE WHAT IT READS IS OF BULK AT MOST 1048576: true; the input reads as it did. -/
def truthRoundsUptoRow : OpenClaim := { program := "ytpmgkmodpneiiaa", sum := "a2deda36da4cfa60d4f065a8bfc9eb8c48e21d9065b42a76ebe4b5ff6023eca1", func := "carousel/carousellaw16.TruthRounds", spec := "truthRounds", unfollowed := true, recurses := true, apart := false, narrowed := true }
def TruthRoundsUptoSaid : Prop := truthRoundsUptoRow.holds Try.pinned (OpenSpec.upto truthRoundsSpec)

end Rows
end Go.Proofs.Ytpmgkmodpneiiaa
