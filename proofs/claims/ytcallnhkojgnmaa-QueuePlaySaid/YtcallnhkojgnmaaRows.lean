/-
  No cell of these rows narrows 'for every input' (looked for: loops, veiled, ifaces, maps, wideKeys, modest, calm, conditions, laid).
  DERIVED. THE GIVEN ROWS OF THIS SEAT. 6 by the template 'for every input the law returns true; each argument reads behind the call as it read before'; 0 by the template 'total and deterministic' (their statements: YtcallnhkojgnmaaTotals.lean).
  GIVEN WITH THE SEED: the statements are not yours to turn. If you find one false, say at which input.
  Laid BY PROGRAM, IN A SANDBOX (cutbox-rows.mjs): the forced cells as the released guide's own fill.sh prints them over the translation bf77e7141baaabc1… (all of the seat's roots in one cut). By AI agents, Wed Nov 11 2026. No macro, syntax, notation, axiom, sorry.
-/
import Derived.Test.YtcallnhkojgnmaaChecked
import GoSem.Claim
import GoSem.ClaimJoined
import GoSem.ClaimMapViews
import Derived.JoinedTies
import Derived.KernelRfl
namespace Go.Proofs.Ytcallnhkojgnmaa
/- THE CELL 'sum', in the pinned program and in every row, IS THE sha256 OF THE DUMP (.gsa) THAT YtcallnhkojgnmaaProg.lean LOADS. Nothing in Lean hashes anything: it is a label: what it is worth is what the hold of that sum in a sandbox is worth. -/
noncomputable def Try.pinned : Pinned := { name := "ytcallnhkojgnmaa", sum := "bf77e7141baaabc1c1b1da6773b7957291c5d572307c2cae8dc8ff2a206c150b", checked := Try.checked }
namespace Rows
def none {H : Type} : Left H := { results := [], args := [] }

/-- 'carousellaw24.QueuePlay': WHATEVER THE INPUT: true; the input reads as it did. -/
def queuePlaySpec : ChangeSpec := { name := "queuePlay", fn := fun _ => fun
  | [d] => { results := [.lit (.bool true)], args := [d] }
  | _ => none }
def queuePlayRow : OpenClaim := { program := "ytcallnhkojgnmaa", sum := "bf77e7141baaabc1c1b1da6773b7957291c5d572307c2cae8dc8ff2a206c150b", func := "carousel/carousellaw24.QueuePlay", spec := "queuePlay", unfollowed := true, recurses := true, apart := false }
def QueuePlaySaid : Prop := queuePlayRow.holds Try.pinned (OpenSpec.ofChange queuePlaySpec)

/-- ITS FALSE NEIGHBOUR: 'it returns false'. Refute it at one input. -/
def queuePlayWrong : ChangeSpec := { name := "queuePlay", fn := fun _ => fun
  | [d] => { results := [.lit (.bool false)], args := [d] }
  | _ => none }
def QueuePlayWrongFalsely : Prop := queuePlayRow.holds Try.pinned (OpenSpec.ofChange queuePlayWrong)

/-- 'carousellaw24.QueueRanks': WHATEVER THE INPUT: true; the input reads as it did. -/
def queueRanksSpec : ChangeSpec := { name := "queueRanks", fn := fun _ => fun
  | [d] => { results := [.lit (.bool true)], args := [d] }
  | _ => none }
def queueRanksRow : OpenClaim := { program := "ytcallnhkojgnmaa", sum := "bf77e7141baaabc1c1b1da6773b7957291c5d572307c2cae8dc8ff2a206c150b", func := "carousel/carousellaw24.QueueRanks", spec := "queueRanks", unfollowed := true, recurses := true, apart := false }
def QueueRanksSaid : Prop := queueRanksRow.holds Try.pinned (OpenSpec.ofChange queueRanksSpec)

/-- ITS FALSE NEIGHBOUR: 'it returns false'. Refute it at one input. -/
def queueRanksWrong : ChangeSpec := { name := "queueRanks", fn := fun _ => fun
  | [d] => { results := [.lit (.bool false)], args := [d] }
  | _ => none }
def QueueRanksWrongFalsely : Prop := queueRanksRow.holds Try.pinned (OpenSpec.ofChange queueRanksWrong)

/-- 'carousellaw24.QueueNone': WHATEVER THE INPUT: true; the input reads as it did. -/
def queueNoneSpec : ChangeSpec := { name := "queueNone", fn := fun _ => fun
  | [d] => { results := [.lit (.bool true)], args := [d] }
  | _ => none }
def queueNoneRow : OpenClaim := { program := "ytcallnhkojgnmaa", sum := "bf77e7141baaabc1c1b1da6773b7957291c5d572307c2cae8dc8ff2a206c150b", func := "carousel/carousellaw24.QueueNone", spec := "queueNone", unfollowed := true, recurses := true, apart := false }
def QueueNoneSaid : Prop := queueNoneRow.holds Try.pinned (OpenSpec.ofChange queueNoneSpec)

/-- ITS FALSE NEIGHBOUR: 'it returns false'. Refute it at one input. -/
def queueNoneWrong : ChangeSpec := { name := "queueNone", fn := fun _ => fun
  | [d] => { results := [.lit (.bool false)], args := [d] }
  | _ => none }
def QueueNoneWrongFalsely : Prop := queueNoneRow.holds Try.pinned (OpenSpec.ofChange queueNoneWrong)

/-- 'carousellaw24.QueueAges': WHATEVER THE INPUT: true; the input reads as it did. -/
def queueAgesSpec : ChangeSpec := { name := "queueAges", fn := fun _ => fun
  | [d1, d2, d3] => { results := [.lit (.bool true)], args := [d1, d2, d3] }
  | _ => none }
def queueAgesRow : OpenClaim := { program := "ytcallnhkojgnmaa", sum := "bf77e7141baaabc1c1b1da6773b7957291c5d572307c2cae8dc8ff2a206c150b", func := "carousel/carousellaw24.QueueAges", spec := "queueAges", unfollowed := true, recurses := true, apart := false }
def QueueAgesSaid : Prop := queueAgesRow.holds Try.pinned (OpenSpec.ofChange queueAgesSpec)

/-- ITS FALSE NEIGHBOUR: 'it returns false'. Refute it at one input. -/
def queueAgesWrong : ChangeSpec := { name := "queueAges", fn := fun _ => fun
  | [d1, d2, d3] => { results := [.lit (.bool false)], args := [d1, d2, d3] }
  | _ => none }
def QueueAgesWrongFalsely : Prop := queueAgesRow.holds Try.pinned (OpenSpec.ofChange queueAgesWrong)

/-- 'carousellaw24.QueueSorted': WHATEVER THE INPUT: true; the input reads as it did. -/
def queueSortedSpec : ChangeSpec := { name := "queueSorted", fn := fun _ => fun
  | [d1, d2] => { results := [.lit (.bool true)], args := [d1, d2] }
  | _ => none }
def queueSortedRow : OpenClaim := { program := "ytcallnhkojgnmaa", sum := "bf77e7141baaabc1c1b1da6773b7957291c5d572307c2cae8dc8ff2a206c150b", func := "carousel/carousellaw24.QueueSorted", spec := "queueSorted", unfollowed := true, recurses := true, apart := false }
def QueueSortedSaid : Prop := queueSortedRow.holds Try.pinned (OpenSpec.ofChange queueSortedSpec)

/-- ITS FALSE NEIGHBOUR: 'it returns false'. Refute it at one input. -/
def queueSortedWrong : ChangeSpec := { name := "queueSorted", fn := fun _ => fun
  | [d1, d2] => { results := [.lit (.bool false)], args := [d1, d2] }
  | _ => none }
def QueueSortedWrongFalsely : Prop := queueSortedRow.holds Try.pinned (OpenSpec.ofChange queueSortedWrong)

/-- 'carousellaw24.QueueFull': WHATEVER THE INPUT: true; the input reads as it did. -/
def queueFullSpec : ChangeSpec := { name := "queueFull", fn := fun _ => fun
  | [d1, d2] => { results := [.lit (.bool true)], args := [d1, d2] }
  | _ => none }
def queueFullRow : OpenClaim := { program := "ytcallnhkojgnmaa", sum := "bf77e7141baaabc1c1b1da6773b7957291c5d572307c2cae8dc8ff2a206c150b", func := "carousel/carousellaw24.QueueFull", spec := "queueFull", unfollowed := true, recurses := true, apart := false }
def QueueFullSaid : Prop := queueFullRow.holds Try.pinned (OpenSpec.ofChange queueFullSpec)

/-- ITS FALSE NEIGHBOUR: 'it returns false'. Refute it at one input. -/
def queueFullWrong : ChangeSpec := { name := "queueFull", fn := fun _ => fun
  | [d1, d2] => { results := [.lit (.bool false)], args := [d1, d2] }
  | _ => none }
def QueueFullWrongFalsely : Prop := queueFullRow.holds Try.pinned (OpenSpec.ofChange queueFullWrong)

/- THE SECOND FORM. 'bulk': how many values and letters a reading holds, each counted each time it is reached (what is shared counts as often as it is met; a slice's spare places count too). A statement '..UptoSaid' is the law's where the arguments, and the package variables that the reading takes, are together of bulk at most 1048576: NARROWER than '..Said'. Prove '..Said' where nothing that the law and all that it calls make is longer than what came in: it says more and counts as full. Else prove '..UptoSaid'. A law counts once. -/
mutual
def uptoBulk {H : Type} : DataW H → Nat
  | .lit (.string bytes) => bytes.length + 1
  | .lit _ => 1
  | .nil => 1
  | .ptr d => uptoBulk d + 1
  | .slice elems spare => uptoBulkAll elems + uptoBulkAll spare + 1
  | .agg parts => uptoBulkAll parts + 1
  | .iface _ d => uptoBulk d + 1
  | .map entries => uptoBulkEntries entries + 1
  | .held _ => 1
def uptoBulkAll {H : Type} : List (DataW H) → Nat
  | [] => 0
  | d :: r => uptoBulk d + uptoBulkAll r
def uptoBulkEntries {H : Type} : List (Lit × DataW H) → Nat
  | [] => 0
  | x :: r => uptoBulkEntry x + uptoBulkEntries r
def uptoBulkEntry {H : Type} : Lit × DataW H → Nat
  | (.string bytes, d) => bytes.length + uptoBulk d + 1
  | (_, d) => uptoBulk d + 1
 end
def uptoSmall : (H : Type) → List (DataW H) → Bool := fun _ ds => decide (uptoBulkAll ds ≤ 1048576)
def OpenSpec.upto (s : _root_.Go.ChangeSpec) : _root_.Go.OpenSpec := { _root_.Go.OpenSpec.ofChange s with cond := some uptoSmall }

/-- 'carousellaw24.QueuePlay', WHERE WHAT IT READS IS OF BULK AT MOST 1048576: true; the input reads as it did. -/
def queuePlayUptoRow : OpenClaim := { program := "ytcallnhkojgnmaa", sum := "bf77e7141baaabc1c1b1da6773b7957291c5d572307c2cae8dc8ff2a206c150b", func := "carousel/carousellaw24.QueuePlay", spec := "queuePlay", unfollowed := true, recurses := true, apart := false, narrowed := true }
def QueuePlayUptoSaid : Prop := queuePlayUptoRow.holds Try.pinned (OpenSpec.upto queuePlaySpec)

/-- 'carousellaw24.QueueRanks', WHERE WHAT IT READS IS OF BULK AT MOST 1048576: true; the input reads as it did. -/
def queueRanksUptoRow : OpenClaim := { program := "ytcallnhkojgnmaa", sum := "bf77e7141baaabc1c1b1da6773b7957291c5d572307c2cae8dc8ff2a206c150b", func := "carousel/carousellaw24.QueueRanks", spec := "queueRanks", unfollowed := true, recurses := true, apart := false, narrowed := true }
def QueueRanksUptoSaid : Prop := queueRanksUptoRow.holds Try.pinned (OpenSpec.upto queueRanksSpec)

/-- 'carousellaw24.QueueNone', WHERE WHAT IT READS IS OF BULK AT MOST 1048576: true; the input reads as it did. -/
def queueNoneUptoRow : OpenClaim := { program := "ytcallnhkojgnmaa", sum := "bf77e7141baaabc1c1b1da6773b7957291c5d572307c2cae8dc8ff2a206c150b", func := "carousel/carousellaw24.QueueNone", spec := "queueNone", unfollowed := true, recurses := true, apart := false, narrowed := true }
def QueueNoneUptoSaid : Prop := queueNoneUptoRow.holds Try.pinned (OpenSpec.upto queueNoneSpec)

/-- 'carousellaw24.QueueAges', WHERE WHAT IT READS IS OF BULK AT MOST 1048576: true; the input reads as it did. -/
def queueAgesUptoRow : OpenClaim := { program := "ytcallnhkojgnmaa", sum := "bf77e7141baaabc1c1b1da6773b7957291c5d572307c2cae8dc8ff2a206c150b", func := "carousel/carousellaw24.QueueAges", spec := "queueAges", unfollowed := true, recurses := true, apart := false, narrowed := true }
def QueueAgesUptoSaid : Prop := queueAgesUptoRow.holds Try.pinned (OpenSpec.upto queueAgesSpec)

/-- 'carousellaw24.QueueSorted', WHERE WHAT IT READS IS OF BULK AT MOST 1048576: true; the input reads as it did. -/
def queueSortedUptoRow : OpenClaim := { program := "ytcallnhkojgnmaa", sum := "bf77e7141baaabc1c1b1da6773b7957291c5d572307c2cae8dc8ff2a206c150b", func := "carousel/carousellaw24.QueueSorted", spec := "queueSorted", unfollowed := true, recurses := true, apart := false, narrowed := true }
def QueueSortedUptoSaid : Prop := queueSortedUptoRow.holds Try.pinned (OpenSpec.upto queueSortedSpec)

/-- 'carousellaw24.QueueFull', WHERE WHAT IT READS IS OF BULK AT MOST 1048576: true; the input reads as it did. -/
def queueFullUptoRow : OpenClaim := { program := "ytcallnhkojgnmaa", sum := "bf77e7141baaabc1c1b1da6773b7957291c5d572307c2cae8dc8ff2a206c150b", func := "carousel/carousellaw24.QueueFull", spec := "queueFull", unfollowed := true, recurses := true, apart := false, narrowed := true }
def QueueFullUptoSaid : Prop := queueFullUptoRow.holds Try.pinned (OpenSpec.upto queueFullSpec)

end Rows
end Go.Proofs.Ytcallnhkojgnmaa
