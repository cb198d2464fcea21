/-
  No cell of these rows narrows 'for every input' (looked for: loops, veiled, ifaces, maps, wideKeys, modest, calm, conditions, laid).
  DERIVED. THE GIVEN ROWS OF THIS SEAT. 5 by the template 'for every input the law returns true; each argument reads behind the call as it read before'; 0 by the template 'total and deterministic' (their statements: YtfmicncpaaioaaaTotals.lean).
  GIVEN WITH THE SEED: the statements are not yours to turn. If you find one false, say at which input.
  Laid BY PROGRAM, IN A SANDBOX (cutbox-rows.mjs): the forced cells as the released guide's own fill.sh prints them over the translation 9e7df0d9ecce6f57… (all of the seat's roots in one cut). By AI agents, Wed Nov 11 2026. No macro, syntax, notation, axiom, sorry.
-/
import Derived.Test.YtfmicncpaaioaaaChecked
import GoSem.Claim
import GoSem.ClaimJoined
import GoSem.ClaimMapViews
import Derived.JoinedTies
import Derived.KernelRfl
namespace Go.Proofs.Ytfmicncpaaioaaa
/- THE CELL 'sum', in the pinned program and in every row, IS THE sha256 OF THE DUMP (.gsa) THAT YtfmicncpaaioaaaProg.lean LOADS. Nothing in Lean hashes anything: it is a label: what it is worth is what the hold of that sum in a sandbox is worth. -/
noncomputable def Try.pinned : Pinned := { name := "ytfmicncpaaioaaa", sum := "9e7df0d9ecce6f57df65281bf61a806c9fcf89dc5819b4ecd7915e176eda3d4e", checked := Try.checked }
namespace Rows
def none {H : Type} : Left H := { results := [], args := [] }

/-- 'carousellaw26.ScanPlay': WHATEVER THE INPUT: true; the input reads as it did. -/
def scanPlaySpec : ChangeSpec := { name := "scanPlay", fn := fun _ => fun
  | [d1, d2] => { results := [.lit (.bool true)], args := [d1, d2] }
  | _ => none }
def scanPlayRow : OpenClaim := { program := "ytfmicncpaaioaaa", sum := "9e7df0d9ecce6f57df65281bf61a806c9fcf89dc5819b4ecd7915e176eda3d4e", func := "carousel/carousellaw26.ScanPlay", spec := "scanPlay", unfollowed := true, recurses := true, apart := false }
def ScanPlaySaid : Prop := scanPlayRow.holds Try.pinned (OpenSpec.ofChange scanPlaySpec)

/-- ITS FALSE NEIGHBOUR: 'it returns false'. Refute it at one input. -/
def scanPlayWrong : ChangeSpec := { name := "scanPlay", fn := fun _ => fun
  | [d1, d2] => { results := [.lit (.bool false)], args := [d1, d2] }
  | _ => none }
def ScanPlayWrongFalsely : Prop := scanPlayRow.holds Try.pinned (OpenSpec.ofChange scanPlayWrong)

/-- 'carousellaw26.ScanNone': WHATEVER THE INPUT: true; the input reads as it did. -/
def scanNoneSpec : ChangeSpec := { name := "scanNone", fn := fun _ => fun
  | [d] => { results := [.lit (.bool true)], args := [d] }
  | _ => none }
def scanNoneRow : OpenClaim := { program := "ytfmicncpaaioaaa", sum := "9e7df0d9ecce6f57df65281bf61a806c9fcf89dc5819b4ecd7915e176eda3d4e", func := "carousel/carousellaw26.ScanNone", spec := "scanNone", unfollowed := true, recurses := true, apart := false }
def ScanNoneSaid : Prop := scanNoneRow.holds Try.pinned (OpenSpec.ofChange scanNoneSpec)

/-- ITS FALSE NEIGHBOUR: 'it returns false'. Refute it at one input. -/
def scanNoneWrong : ChangeSpec := { name := "scanNone", fn := fun _ => fun
  | [d] => { results := [.lit (.bool false)], args := [d] }
  | _ => none }
def ScanNoneWrongFalsely : Prop := scanNoneRow.holds Try.pinned (OpenSpec.ofChange scanNoneWrong)

/-- 'carousellaw26.ScanRound': WHATEVER THE INPUT: true; the input reads as it did. -/
def scanRoundSpec : ChangeSpec := { name := "scanRound", fn := fun _ => fun
  | [d1, d2, d3] => { results := [.lit (.bool true)], args := [d1, d2, d3] }
  | _ => none }
def scanRoundRow : OpenClaim := { program := "ytfmicncpaaioaaa", sum := "9e7df0d9ecce6f57df65281bf61a806c9fcf89dc5819b4ecd7915e176eda3d4e", func := "carousel/carousellaw26.ScanRound", spec := "scanRound", unfollowed := true, recurses := true, apart := false }
def ScanRoundSaid : Prop := scanRoundRow.holds Try.pinned (OpenSpec.ofChange scanRoundSpec)

/-- ITS FALSE NEIGHBOUR: 'it returns false'. Refute it at one input. -/
def scanRoundWrong : ChangeSpec := { name := "scanRound", fn := fun _ => fun
  | [d1, d2, d3] => { results := [.lit (.bool false)], args := [d1, d2, d3] }
  | _ => none }
def ScanRoundWrongFalsely : Prop := scanRoundRow.holds Try.pinned (OpenSpec.ofChange scanRoundWrong)

/-- 'carousellaw26.ScanFull': WHATEVER THE INPUT: true; the input reads as it did. -/
def scanFullSpec : ChangeSpec := { name := "scanFull", fn := fun _ => fun
  | [d] => { results := [.lit (.bool true)], args := [d] }
  | _ => none }
def scanFullRow : OpenClaim := { program := "ytfmicncpaaioaaa", sum := "9e7df0d9ecce6f57df65281bf61a806c9fcf89dc5819b4ecd7915e176eda3d4e", func := "carousel/carousellaw26.ScanFull", spec := "scanFull", unfollowed := true, recurses := true, apart := false }
def ScanFullSaid : Prop := scanFullRow.holds Try.pinned (OpenSpec.ofChange scanFullSpec)

/-- ITS FALSE NEIGHBOUR: 'it returns false'. Refute it at one input. -/
def scanFullWrong : ChangeSpec := { name := "scanFull", fn := fun _ => fun
  | [d] => { results := [.lit (.bool false)], args := [d] }
  | _ => none }
def ScanFullWrongFalsely : Prop := scanFullRow.holds Try.pinned (OpenSpec.ofChange scanFullWrong)

/-- 'carousellaw26.ScanLeave': WHATEVER THE INPUT: true; the input reads as it did. -/
def scanLeaveSpec : ChangeSpec := { name := "scanLeave", fn := fun _ => fun
  | [d1, d2] => { results := [.lit (.bool true)], args := [d1, d2] }
  | _ => none }
def scanLeaveRow : OpenClaim := { program := "ytfmicncpaaioaaa", sum := "9e7df0d9ecce6f57df65281bf61a806c9fcf89dc5819b4ecd7915e176eda3d4e", func := "carousel/carousellaw26.ScanLeave", spec := "scanLeave", unfollowed := true, recurses := true, apart := false }
def ScanLeaveSaid : Prop := scanLeaveRow.holds Try.pinned (OpenSpec.ofChange scanLeaveSpec)

/-- ITS FALSE NEIGHBOUR: 'it returns false'. Refute it at one input. -/
def scanLeaveWrong : ChangeSpec := { name := "scanLeave", fn := fun _ => fun
  | [d1, d2] => { results := [.lit (.bool false)], args := [d1, d2] }
  | _ => none }
def ScanLeaveWrongFalsely : Prop := scanLeaveRow.holds Try.pinned (OpenSpec.ofChange scanLeaveWrong)

/- THE SECOND FORM. 'bulk': how many values and letters a reading holds, each counted each time it is reached (what is shared counts as often as it is met; a slice's spare places count too). A statement '..UptoSaid' is the law's where the arguments, and the package variables that the reading takes, are together of bulk at most 1048576: NARROWER than '..Said'. Prove '..Said' where nothing that the law and all that it calls make is longer than what came in: it says more and counts as full. Else prove '..UptoSaid'. A law counts once. -/
mutual
def uptoBulk {H : Type} : DataW H → Nat
  | .lit (.string bytes) => bytes.length + 1
  | .lit _ => 1
  | .nil => 1
  | .ptr d => uptoBulk d + 1
  | .slice elems spare => uptoBulkAll elems + uptoBulkAll spare + 1
  | .agg parts => uptoBulkAll parts + 1
  | .iface _ d => uptoBulk d + 1
  | .map entries => uptoBulkEntries entries + 1
  | .held _ => 1
def uptoBulkAll {H : Type} : List (DataW H) → Nat
  | [] => 0
  | d :: r => uptoBulk d + uptoBulkAll r
def uptoBulkEntries {H : Type} : List (Lit × DataW H) → Nat
  | [] => 0
  | x :: r => uptoBulkEntry x + uptoBulkEntries r
def uptoBulkEntry {H : Type} : Lit × DataW H → Nat
  | (.string bytes, d) => bytes.length + uptoBulk d + 1
  | (_, d) => uptoBulk d + 1
 end
def uptoSmall : (H : Type) → List (DataW H) → Bool := fun _ ds => decide (uptoBulkAll ds ≤ 1048576)
def OpenSpec.upto (s : _root_.Go.ChangeSpec) : _root_.Go.OpenSpec := { _root_.Go.OpenSpec.ofChange s with cond := some uptoSmall }

/-- 'carousellaw26.ScanPlay', WHERE WHAT IT READS IS OF BULK AT MOST 1048576: true; the input reads as it did. -/
def scanPlayUptoRow : OpenClaim := { program := "ytfmicncpaaioaaa", sum := "9e7df0d9ecce6f57df65281bf61a806c9fcf89dc5819b4ecd7915e176eda3d4e", func := "carousel/carousellaw26.ScanPlay", spec := "scanPlay", unfollowed := true, recurses := true, apart := false, narrowed := true }
def ScanPlayUptoSaid : Prop := scanPlayUptoRow.holds Try.pinned (OpenSpec.upto scanPlaySpec)

/-- 'carousellaw26.ScanNone', WHERE WHAT IT READS IS OF BULK AT MOST 1048576: true; the input reads as it did. -/
def scanNoneUptoRow : OpenClaim := { program := "ytfmicncpaaioaaa", sum := "9e7df0d9ecce6f57df65281bf61a806c9fcf89dc5819b4ecd7915e176eda3d4e", func := "carousel/carousellaw26.ScanNone", spec := "scanNone", unfollowed := true, recurses := true, apart := false, narrowed := true }
def ScanNoneUptoSaid : Prop := scanNoneUptoRow.holds Try.pinned (OpenSpec.upto scanNoneSpec)

/-- 'carousellaw26.ScanRound', WHERE WHAT IT READS IS OF BULK AT MOST 1048576: true; the input reads as it did. -/
def scanRoundUptoRow : OpenClaim := { program := "ytfmicncpaaioaaa", sum := "9e7df0d9ecce6f57df65281bf61a806c9fcf89dc5819b4ecd7915e176eda3d4e", func := "carousel/carousellaw26.ScanRound", spec := "scanRound", unfollowed := true, recurses := true, apart := false, narrowed := true }
def ScanRoundUptoSaid : Prop := scanRoundUptoRow.holds Try.pinned (OpenSpec.upto scanRoundSpec)

/-- 'carousellaw26.ScanFull', WHERE WHAT IT READS IS OF BULK AT MOST 1048576: true; the input reads as it did. -/
def scanFullUptoRow : OpenClaim := { program := "ytfmicncpaaioaaa", sum := "9e7df0d9ecce6f57df65281bf61a806c9fcf89dc5819b4ecd7915e176eda3d4e", func := "carousel/carousellaw26.ScanFull", spec := "scanFull", unfollowed := true, recurses := true, apart := false, narrowed := true }
def ScanFullUptoSaid : Prop := scanFullUptoRow.holds Try.pinned (OpenSpec.upto scanFullSpec)

/-- 'carousellaw26.ScanLeave', WHERE WHAT IT READS IS OF BULK AT MOST 1048576: true; the input reads as it did. -/
def scanLeaveUptoRow : OpenClaim := { program := "ytfmicncpaaioaaa", sum := "9e7df0d9ecce6f57df65281bf61a806c9fcf89dc5819b4ecd7915e176eda3d4e", func := "carousel/carousellaw26.ScanLeave", spec := "scanLeave", unfollowed := true, recurses := true, apart := false, narrowed := true }
def ScanLeaveUptoSaid : Prop := scanLeaveUptoRow.holds Try.pinned (OpenSpec.upto scanLeaveSpec)

end Rows
end Go.Proofs.Ytfmicncpaaioaaa
