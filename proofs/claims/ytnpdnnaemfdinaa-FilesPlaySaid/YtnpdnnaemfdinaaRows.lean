/-
  No cell of these rows narrows 'for every input' (looked for: loops, veiled, ifaces, maps, wideKeys, modest, calm, conditions, laid).
  DERIVED. THE GIVEN ROWS OF THIS SEAT. 7 by the template 'for every input the law returns true; each argument reads behind the call as it read before'; 0 by the template 'total and deterministic' (their statements: YtnpdnnaemfdinaaTotals.lean).
  GIVEN WITH THE SEED: the statements are not yours to turn. If you find one false, say at which input.
  Laid BY PROGRAM, IN A SANDBOX (cutbox-rows.mjs): the forced cells as the released guide's own fill.sh prints them over the translation 6d877e3899440702… (all of the seat's roots in one cut). By AI agents, Wed Nov 11 2026. No macro, syntax, notation, axiom, sorry.
-/
import Derived.Test.YtnpdnnaemfdinaaChecked
import GoSem.Claim
import GoSem.ClaimJoined
import GoSem.ClaimMapViews
import Derived.JoinedTies
import Derived.KernelRfl
namespace Go.Proofs.Ytnpdnnaemfdinaa
/- THE CELL 'sum', in the pinned program and in every row, IS THE sha256 OF THE DUMP (.gsa) THAT YtnpdnnaemfdinaaProg.lean LOADS. Nothing in Lean hashes anything: it is a label: what it is worth is what the hold of that sum in a sandbox is worth. -/
noncomputable def Try.pinned : Pinned := { name := "ytnpdnnaemfdinaa", sum := "6d877e38994407021a1da76a32f00c32fa2a0bfa317a578b5b7e4936e43720ae", checked := Try.checked }
namespace Rows
def none {H : Type} : Left H := { results := [], args := [] }

/-- 'carousellaw06.FilesFail': WHATEVER THE INPUT: true; the input reads as it did. -/
def filesFailSpec : ChangeSpec := { name := "filesFail", fn := fun _ => fun
  | [d1, d2, d3] => { results := [.lit (.bool true)], args := [d1, d2, d3] }
  | _ => none }
def filesFailRow : OpenClaim := { program := "ytnpdnnaemfdinaa", sum := "6d877e38994407021a1da76a32f00c32fa2a0bfa317a578b5b7e4936e43720ae", func := "carousel/carousellaw06.FilesFail", spec := "filesFail", unfollowed := true, recurses := true, apart := false }
def FilesFailSaid : Prop := filesFailRow.holds Try.pinned (OpenSpec.ofChange filesFailSpec)

/-- ITS FALSE NEIGHBOUR: 'it returns false'. Refute it at one input. -/
def filesFailWrong : ChangeSpec := { name := "filesFail", fn := fun _ => fun
  | [d1, d2, d3] => { results := [.lit (.bool false)], args := [d1, d2, d3] }
  | _ => none }
def FilesFailWrongFalsely : Prop := filesFailRow.holds Try.pinned (OpenSpec.ofChange filesFailWrong)

/-- 'carousellaw06.FilesNames': WHATEVER THE INPUT: true; the input reads as it did. -/
def filesNamesSpec : ChangeSpec := { name := "filesNames", fn := fun _ => fun
  | [d] => { results := [.lit (.bool true)], args := [d] }
  | _ => none }
def filesNamesRow : OpenClaim := { program := "ytnpdnnaemfdinaa", sum := "6d877e38994407021a1da76a32f00c32fa2a0bfa317a578b5b7e4936e43720ae", func := "carousel/carousellaw06.FilesNames", spec := "filesNames", unfollowed := true, recurses := true, apart := false }
def FilesNamesSaid : Prop := filesNamesRow.holds Try.pinned (OpenSpec.ofChange filesNamesSpec)

/-- ITS FALSE NEIGHBOUR: 'it returns false'. Refute it at one input. -/
def filesNamesWrong : ChangeSpec := { name := "filesNames", fn := fun _ => fun
  | [d] => { results := [.lit (.bool false)], args := [d] }
  | _ => none }
def FilesNamesWrongFalsely : Prop := filesNamesRow.holds Try.pinned (OpenSpec.ofChange filesNamesWrong)

/-- 'carousellaw06.FilesPlay': WHATEVER THE INPUT: true; the input reads as it did. -/
def filesPlaySpec : ChangeSpec := { name := "filesPlay", fn := fun _ => fun
  | [d1, d2] => { results := [.lit (.bool true)], args := [d1, d2] }
  | _ => none }
def filesPlayRow : OpenClaim := { program := "ytnpdnnaemfdinaa", sum := "6d877e38994407021a1da76a32f00c32fa2a0bfa317a578b5b7e4936e43720ae", func := "carousel/carousellaw06.FilesPlay", spec := "filesPlay", unfollowed := true, recurses := true, apart := false }
def FilesPlaySaid : Prop := filesPlayRow.holds Try.pinned (OpenSpec.ofChange filesPlaySpec)

/-- ITS FALSE NEIGHBOUR: 'it returns false'. Refute it at one input. -/
def filesPlayWrong : ChangeSpec := { name := "filesPlay", fn := fun _ => fun
  | [d1, d2] => { results := [.lit (.bool false)], args := [d1, d2] }
  | _ => none }
def FilesPlayWrongFalsely : Prop := filesPlayRow.holds Try.pinned (OpenSpec.ofChange filesPlayWrong)

/-- 'carousellaw06.FilesNone': WHATEVER THE INPUT: true; the input reads as it did. -/
def filesNoneSpec : ChangeSpec := { name := "filesNone", fn := fun _ => fun
  | [d] => { results := [.lit (.bool true)], args := [d] }
  | _ => none }
def filesNoneRow : OpenClaim := { program := "ytnpdnnaemfdinaa", sum := "6d877e38994407021a1da76a32f00c32fa2a0bfa317a578b5b7e4936e43720ae", func := "carousel/carousellaw06.FilesNone", spec := "filesNone", unfollowed := true, recurses := true, apart := false }
def FilesNoneSaid : Prop := filesNoneRow.holds Try.pinned (OpenSpec.ofChange filesNoneSpec)

/-- ITS FALSE NEIGHBOUR: 'it returns false'. Refute it at one input. -/
def filesNoneWrong : ChangeSpec := { name := "filesNone", fn := fun _ => fun
  | [d] => { results := [.lit (.bool false)], args := [d] }
  | _ => none }
def FilesNoneWrongFalsely : Prop := filesNoneRow.holds Try.pinned (OpenSpec.ofChange filesNoneWrong)

/-- 'carousellaw06.FilesKeep': WHATEVER THE INPUT: true; the input reads as it did. -/
def filesKeepSpec : ChangeSpec := { name := "filesKeep", fn := fun _ => fun
  | [d1, d2, d3] => { results := [.lit (.bool true)], args := [d1, d2, d3] }
  | _ => none }
def filesKeepRow : OpenClaim := { program := "ytnpdnnaemfdinaa", sum := "6d877e38994407021a1da76a32f00c32fa2a0bfa317a578b5b7e4936e43720ae", func := "carousel/carousellaw06.FilesKeep", spec := "filesKeep", unfollowed := true, recurses := true, apart := false }
def FilesKeepSaid : Prop := filesKeepRow.holds Try.pinned (OpenSpec.ofChange filesKeepSpec)

/-- ITS FALSE NEIGHBOUR: 'it returns false'. Refute it at one input. -/
def filesKeepWrong : ChangeSpec := { name := "filesKeep", fn := fun _ => fun
  | [d1, d2, d3] => { results := [.lit (.bool false)], args := [d1, d2, d3] }
  | _ => none }
def FilesKeepWrongFalsely : Prop := filesKeepRow.holds Try.pinned (OpenSpec.ofChange filesKeepWrong)

/-- 'carousellaw06.FilesRoom': WHATEVER THE INPUT: true; the input reads as it did. -/
def filesRoomSpec : ChangeSpec := { name := "filesRoom", fn := fun _ => fun
  | [d1, d2] => { results := [.lit (.bool true)], args := [d1, d2] }
  | _ => none }
def filesRoomRow : OpenClaim := { program := "ytnpdnnaemfdinaa", sum := "6d877e38994407021a1da76a32f00c32fa2a0bfa317a578b5b7e4936e43720ae", func := "carousel/carousellaw06.FilesRoom", spec := "filesRoom", unfollowed := true, recurses := true, apart := false }
def FilesRoomSaid : Prop := filesRoomRow.holds Try.pinned (OpenSpec.ofChange filesRoomSpec)

/-- ITS FALSE NEIGHBOUR: 'it returns false'. Refute it at one input. -/
def filesRoomWrong : ChangeSpec := { name := "filesRoom", fn := fun _ => fun
  | [d1, d2] => { results := [.lit (.bool false)], args := [d1, d2] }
  | _ => none }
def FilesRoomWrongFalsely : Prop := filesRoomRow.holds Try.pinned (OpenSpec.ofChange filesRoomWrong)

/-- 'carousellaw06.FilesFlip': WHATEVER THE INPUT: true; the input reads as it did. -/
def filesFlipSpec : ChangeSpec := { name := "filesFlip", fn := fun _ => fun
  | [d1, d2, d3] => { results := [.lit (.bool true)], args := [d1, d2, d3] }
  | _ => none }
def filesFlipRow : OpenClaim := { program := "ytnpdnnaemfdinaa", sum := "6d877e38994407021a1da76a32f00c32fa2a0bfa317a578b5b7e4936e43720ae", func := "carousel/carousellaw06.FilesFlip", spec := "filesFlip", unfollowed := true, recurses := true, apart := false }
def FilesFlipSaid : Prop := filesFlipRow.holds Try.pinned (OpenSpec.ofChange filesFlipSpec)

/-- ITS FALSE NEIGHBOUR: 'it returns false'. Refute it at one input. -/
def filesFlipWrong : ChangeSpec := { name := "filesFlip", fn := fun _ => fun
  | [d1, d2, d3] => { results := [.lit (.bool false)], args := [d1, d2, d3] }
  | _ => none }
def FilesFlipWrongFalsely : Prop := filesFlipRow.holds Try.pinned (OpenSpec.ofChange filesFlipWrong)

/- THE SECOND FORM. 'bulk': how many values and letters a reading holds, each counted each time it is reached (what is shared counts as often as it is met; a slice's spare places count too). A statement '..UptoSaid' is the law's where the arguments, and the package variables that the reading takes, are together of bulk at most 1048576: NARROWER than '..Said'. Prove '..Said' where nothing that the law and all that it calls make is longer than what came in: it says more and counts as full. Else prove '..UptoSaid'. A law counts once. -/
mutual
def uptoBulk {H : Type} : DataW H → Nat
  | .lit (.string bytes) => bytes.length + 1
  | .lit _ => 1
  | .nil => 1
  | .ptr d => uptoBulk d + 1
  | .slice elems spare => uptoBulkAll elems + uptoBulkAll spare + 1
  | .agg parts => uptoBulkAll parts + 1
  | .iface _ d => uptoBulk d + 1
  | .map entries => uptoBulkEntries entries + 1
  | .held _ => 1
def uptoBulkAll {H : Type} : List (DataW H) → Nat
  | [] => 0
  | d :: r => uptoBulk d + uptoBulkAll r
def uptoBulkEntries {H : Type} : List (Lit × DataW H) → Nat
  | [] => 0
  | x :: r => uptoBulkEntry x + uptoBulkEntries r
def uptoBulkEntry {H : Type} : Lit × DataW H → Nat
  | (.string bytes, d) => bytes.length + uptoBulk d + 1
  | (_, d) => uptoBulk d + 1
 end
def uptoSmall : (H : Type) → List (DataW H) → Bool := fun _ ds => decide (uptoBulkAll ds ≤ 1048576)
def OpenSpec.upto (s : _root_.Go.ChangeSpec) : _root_.Go.OpenSpec := { _root_.Go.OpenSpec.ofChange s with cond := some uptoSmall }

/-- 'carousellaw06.FilesFail', WHERE WHAT IT READS IS OF BULK AT MOST 1048576: true; the input reads as it did. -/
def filesFailUptoRow : OpenClaim := { program := "ytnpdnnaemfdinaa", sum := "6d877e38994407021a1da76a32f00c32fa2a0bfa317a578b5b7e4936e43720ae", func := "carousel/carousellaw06.FilesFail", spec := "filesFail", unfollowed := true, recurses := true, apart := false, narrowed := true }
def FilesFailUptoSaid : Prop := filesFailUptoRow.holds Try.pinned (OpenSpec.upto filesFailSpec)

/-- 'carousellaw06.FilesNames', WHERE WHAT IT READS IS OF BULK AT MOST 1048576: true; the input reads as it did. -/
def filesNamesUptoRow : OpenClaim := { program := "ytnpdnnaemfdinaa", sum := "6d877e38994407021a1da76a32f00c32fa2a0bfa317a578b5b7e4936e43720ae", func := "carousel/carousellaw06.FilesNames", spec := "filesNames", unfollowed := true, recurses := true, apart := false, narrowed := true }
def FilesNamesUptoSaid : Prop := filesNamesUptoRow.holds Try.pinned (OpenSpec.upto filesNamesSpec)

/-- 'carousellaw06.FilesPlay', WHERE WHAT IT READS IS OF BULK AT MOST 1048576: true; the input reads as it did. -/
def filesPlayUptoRow : OpenClaim := { program := "ytnpdnnaemfdinaa", sum := "6d877e38994407021a1da76a32f00c32fa2a0bfa317a578b5b7e4936e43720ae", func := "carousel/carousellaw06.FilesPlay", spec := "filesPlay", unfollowed := true, recurses := true, apart := false, narrowed := true }
def FilesPlayUptoSaid : Prop := filesPlayUptoRow.holds Try.pinned (OpenSpec.upto filesPlaySpec)

/-- 'carousellaw06.FilesNone', WHERE WHAT IT READS IS OF BULK AT MOST 1048576: true; the input reads as it did. -/
def filesNoneUptoRow : OpenClaim := { program := "ytnpdnnaemfdinaa", sum := "6d877e38994407021a1da76a32f00c32fa2a0bfa317a578b5b7e4936e43720ae", func := "carousel/carousellaw06.FilesNone", spec := "filesNone", unfollowed := true, recurses := true, apart := false, narrowed := true }
def FilesNoneUptoSaid : Prop := filesNoneUptoRow.holds Try.pinned (OpenSpec.upto filesNoneSpec)

/-- 'carousellaw06.FilesKeep', WHERE WHAT IT READS IS OF BULK AT MOST 1048576: true; the input reads as it did. -/
def filesKeepUptoRow : OpenClaim := { program := "ytnpdnnaemfdinaa", sum := "6d877e38994407021a1da76a32f00c32fa2a0bfa317a578b5b7e4936e43720ae", func := "carousel/carousellaw06.FilesKeep", spec := "filesKeep", unfollowed := true, recurses := true, apart := false, narrowed := true }
def FilesKeepUptoSaid : Prop := filesKeepUptoRow.holds Try.pinned (OpenSpec.upto filesKeepSpec)

/-- 'carousellaw06.FilesRoom', WHERE WHAT IT READS IS OF BULK AT MOST 1048576: true; the input reads as it did. -/
def filesRoomUptoRow : OpenClaim := { program := "ytnpdnnaemfdinaa", sum := "6d877e38994407021a1da76a32f00c32fa2a0bfa317a578b5b7e4936e43720ae", func := "carousel/carousellaw06.FilesRoom", spec := "filesRoom", unfollowed := true, recurses := true, apart := false, narrowed := true }
def FilesRoomUptoSaid : Prop := filesRoomUptoRow.holds Try.pinned (OpenSpec.upto filesRoomSpec)

/-- 'carousellaw06.FilesFlip', WHERE WHAT IT READS IS OF BULK AT MOST 1048576: true; the input reads as it did. -/
def filesFlipUptoRow : OpenClaim := { program := "ytnpdnnaemfdinaa", sum := "6d877e38994407021a1da76a32f00c32fa2a0bfa317a578b5b7e4936e43720ae", func := "carousel/carousellaw06.FilesFlip", spec := "filesFlip", unfollowed := true, recurses := true, apart := false, narrowed := true }
def FilesFlipUptoSaid : Prop := filesFlipUptoRow.holds Try.pinned (OpenSpec.upto filesFlipSpec)

end Rows
end Go.Proofs.Ytnpdnnaemfdinaa
