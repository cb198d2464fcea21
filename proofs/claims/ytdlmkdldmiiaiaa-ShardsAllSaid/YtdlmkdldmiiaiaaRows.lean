/-
  No cell of these rows narrows 'for every input' (looked for: loops, veiled, ifaces, maps, wideKeys, modest, calm, conditions, laid).
  DERIVED. THE GIVEN ROWS OF THIS SEAT. 7 by the template 'for every input the law returns true; each argument reads behind the call as it read before'; 0 by the template 'total and deterministic' (their statements: YtdlmkdldmiiaiaaTotals.lean).
  GIVEN WITH THE SEED: the statements are not yours to turn. If you find one false, say at which input.
  Laid BY PROGRAM, IN A SANDBOX (cutbox-rows.mjs): the forced cells as the released guide's own fill.sh prints them over the translation 9834c4f19b45fad9… (all of the seat's roots in one cut). By AI agents, Wed Nov 11 2026. No macro, syntax, notation, axiom, sorry.
-/
import Derived.Test.YtdlmkdldmiiaiaaChecked
import GoSem.Claim
import GoSem.ClaimJoined
import GoSem.ClaimMapViews
import Derived.JoinedTies
import Derived.KernelRfl
namespace Go.Proofs.Ytdlmkdldmiiaiaa
/- THE CELL 'sum', in the pinned program and in every row, IS THE sha256 OF THE DUMP (.gsa) THAT YtdlmkdldmiiaiaaProg.lean LOADS. Nothing in Lean hashes anything: it is a label: what it is worth is what the hold of that sum in a sandbox is worth. -/
noncomputable def Try.pinned : Pinned := { name := "ytdlmkdldmiiaiaa", sum := "9834c4f19b45fad9d8055ad2e5439c90a92b048cb0099d3bc8c97c9d12e17766", checked := Try.checked }
namespace Rows
def none {H : Type} : Left H := { results := [], args := [] }

/-- 'carousellaw10.ShardsMake': WHATEVER THE INPUT: true; the input reads as it did. -/
def shardsMakeSpec : ChangeSpec := { name := "shardsMake", fn := fun _ => fun
  | [d1, d2] => { results := [.lit (.bool true)], args := [d1, d2] }
  | _ => none }
def shardsMakeRow : OpenClaim := { program := "ytdlmkdldmiiaiaa", sum := "9834c4f19b45fad9d8055ad2e5439c90a92b048cb0099d3bc8c97c9d12e17766", func := "carousel/carousellaw10.ShardsMake", spec := "shardsMake", inPlace := ["internal/abi.NoEscape"], unfollowed := true, recurses := true, apart := false }
def ShardsMakeSaid : Prop := shardsMakeRow.holds Try.pinned (OpenSpec.ofChange shardsMakeSpec)

/-- ITS FALSE NEIGHBOUR: 'it returns false'. Refute it at one input. -/
def shardsMakeWrong : ChangeSpec := { name := "shardsMake", fn := fun _ => fun
  | [d1, d2] => { results := [.lit (.bool false)], args := [d1, d2] }
  | _ => none }
def ShardsMakeWrongFalsely : Prop := shardsMakeRow.holds Try.pinned (OpenSpec.ofChange shardsMakeWrong)

/-- 'carousellaw10.ShardsWay': WHATEVER THE INPUT: true; the input reads as it did. -/
def shardsWaySpec : ChangeSpec := { name := "shardsWay", fn := fun _ => fun
  | [d] => { results := [.lit (.bool true)], args := [d] }
  | _ => none }
def shardsWayRow : OpenClaim := { program := "ytdlmkdldmiiaiaa", sum := "9834c4f19b45fad9d8055ad2e5439c90a92b048cb0099d3bc8c97c9d12e17766", func := "carousel/carousellaw10.ShardsWay", spec := "shardsWay", inPlace := ["internal/abi.NoEscape"], unfollowed := true, recurses := true, apart := false }
def ShardsWaySaid : Prop := shardsWayRow.holds Try.pinned (OpenSpec.ofChange shardsWaySpec)

/-- ITS FALSE NEIGHBOUR: 'it returns false'. Refute it at one input. -/
def shardsWayWrong : ChangeSpec := { name := "shardsWay", fn := fun _ => fun
  | [d] => { results := [.lit (.bool false)], args := [d] }
  | _ => none }
def ShardsWayWrongFalsely : Prop := shardsWayRow.holds Try.pinned (OpenSpec.ofChange shardsWayWrong)

/-- 'carousellaw10.ShardsNone': WHATEVER THE INPUT: true; the input reads as it did. -/
def shardsNoneSpec : ChangeSpec := { name := "shardsNone", fn := fun _ => fun
  | [d1, d2] => { results := [.lit (.bool true)], args := [d1, d2] }
  | _ => none }
def shardsNoneRow : OpenClaim := { program := "ytdlmkdldmiiaiaa", sum := "9834c4f19b45fad9d8055ad2e5439c90a92b048cb0099d3bc8c97c9d12e17766", func := "carousel/carousellaw10.ShardsNone", spec := "shardsNone", inPlace := ["internal/abi.NoEscape"], unfollowed := true, recurses := true, apart := false }
def ShardsNoneSaid : Prop := shardsNoneRow.holds Try.pinned (OpenSpec.ofChange shardsNoneSpec)

/-- ITS FALSE NEIGHBOUR: 'it returns false'. Refute it at one input. -/
def shardsNoneWrong : ChangeSpec := { name := "shardsNone", fn := fun _ => fun
  | [d1, d2] => { results := [.lit (.bool false)], args := [d1, d2] }
  | _ => none }
def ShardsNoneWrongFalsely : Prop := shardsNoneRow.holds Try.pinned (OpenSpec.ofChange shardsNoneWrong)

/-- 'carousellaw10.ShardsTell': WHATEVER THE INPUT: true; the input reads as it did. -/
def shardsTellSpec : ChangeSpec := { name := "shardsTell", fn := fun _ => fun
  | [d1, d2] => { results := [.lit (.bool true)], args := [d1, d2] }
  | _ => none }
def shardsTellRow : OpenClaim := { program := "ytdlmkdldmiiaiaa", sum := "9834c4f19b45fad9d8055ad2e5439c90a92b048cb0099d3bc8c97c9d12e17766", func := "carousel/carousellaw10.ShardsTell", spec := "shardsTell", inPlace := ["internal/abi.NoEscape"], unfollowed := true, recurses := true, apart := false }
def ShardsTellSaid : Prop := shardsTellRow.holds Try.pinned (OpenSpec.ofChange shardsTellSpec)

/-- ITS FALSE NEIGHBOUR: 'it returns false'. Refute it at one input. -/
def shardsTellWrong : ChangeSpec := { name := "shardsTell", fn := fun _ => fun
  | [d1, d2] => { results := [.lit (.bool false)], args := [d1, d2] }
  | _ => none }
def ShardsTellWrongFalsely : Prop := shardsTellRow.holds Try.pinned (OpenSpec.ofChange shardsTellWrong)

/-- 'carousellaw10.ShardsBack': WHATEVER THE INPUT: true; the input reads as it did. -/
def shardsBackSpec : ChangeSpec := { name := "shardsBack", fn := fun _ => fun
  | [d1, d2, d3] => { results := [.lit (.bool true)], args := [d1, d2, d3] }
  | _ => none }
def shardsBackRow : OpenClaim := { program := "ytdlmkdldmiiaiaa", sum := "9834c4f19b45fad9d8055ad2e5439c90a92b048cb0099d3bc8c97c9d12e17766", func := "carousel/carousellaw10.ShardsBack", spec := "shardsBack", inPlace := ["internal/abi.NoEscape"], unfollowed := true, recurses := true, apart := false }
def ShardsBackSaid : Prop := shardsBackRow.holds Try.pinned (OpenSpec.ofChange shardsBackSpec)

/-- ITS FALSE NEIGHBOUR: 'it returns false'. Refute it at one input. -/
def shardsBackWrong : ChangeSpec := { name := "shardsBack", fn := fun _ => fun
  | [d1, d2, d3] => { results := [.lit (.bool false)], args := [d1, d2, d3] }
  | _ => none }
def ShardsBackWrongFalsely : Prop := shardsBackRow.holds Try.pinned (OpenSpec.ofChange shardsBackWrong)

/-- 'carousellaw10.ShardsTurned': WHATEVER THE INPUT: true; the input reads as it did. -/
def shardsTurnedSpec : ChangeSpec := { name := "shardsTurned", fn := fun _ => fun
  | [d1, d2, d3] => { results := [.lit (.bool true)], args := [d1, d2, d3] }
  | _ => none }
def shardsTurnedRow : OpenClaim := { program := "ytdlmkdldmiiaiaa", sum := "9834c4f19b45fad9d8055ad2e5439c90a92b048cb0099d3bc8c97c9d12e17766", func := "carousel/carousellaw10.ShardsTurned", spec := "shardsTurned", inPlace := ["internal/abi.NoEscape"], unfollowed := true, recurses := true, apart := false }
def ShardsTurnedSaid : Prop := shardsTurnedRow.holds Try.pinned (OpenSpec.ofChange shardsTurnedSpec)

/-- ITS FALSE NEIGHBOUR: 'it returns false'. Refute it at one input. -/
def shardsTurnedWrong : ChangeSpec := { name := "shardsTurned", fn := fun _ => fun
  | [d1, d2, d3] => { results := [.lit (.bool false)], args := [d1, d2, d3] }
  | _ => none }
def ShardsTurnedWrongFalsely : Prop := shardsTurnedRow.holds Try.pinned (OpenSpec.ofChange shardsTurnedWrong)

/-- 'carousellaw10.ShardsAll': WHATEVER THE INPUT: true; the input reads as it did. -/
def shardsAllSpec : ChangeSpec := { name := "shardsAll", fn := fun _ => fun
  | [d1, d2, d3] => { results := [.lit (.bool true)], args := [d1, d2, d3] }
  | _ => none }
def shardsAllRow : OpenClaim := { program := "ytdlmkdldmiiaiaa", sum := "9834c4f19b45fad9d8055ad2e5439c90a92b048cb0099d3bc8c97c9d12e17766", func := "carousel/carousellaw10.ShardsAll", spec := "shardsAll", inPlace := ["internal/abi.NoEscape"], unfollowed := true, recurses := true, apart := false }
def ShardsAllSaid : Prop := shardsAllRow.holds Try.pinned (OpenSpec.ofChange shardsAllSpec)

/-- ITS FALSE NEIGHBOUR: 'it returns false'. Refute it at one input. -/
def shardsAllWrong : ChangeSpec := { name := "shardsAll", fn := fun _ => fun
  | [d1, d2, d3] => { results := [.lit (.bool false)], args := [d1, d2, d3] }
  | _ => none }
def ShardsAllWrongFalsely : Prop := shardsAllRow.holds Try.pinned (OpenSpec.ofChange shardsAllWrong)

/- THE SECOND FORM. 'bulk': how many values and letters a reading holds, each counted each time it is reached (what is shared counts as often as it is met; a slice's spare places count too). A statement '..UptoSaid' is the law's where the arguments, and the package variables that the reading takes, are together of bulk at most 1048576: NARROWER than '..Said'. Prove '..Said' where nothing that the law and all that it calls make is longer than what came in: it says more and counts as full. Else prove '..UptoSaid'. A law counts once. -/
mutual
def uptoBulk {H : Type} : DataW H → Nat
  | .lit (.string bytes) => bytes.length + 1
  | .lit _ => 1
  | .nil => 1
  | .ptr d => uptoBulk d + 1
  | .slice elems spare => uptoBulkAll elems + uptoBulkAll spare + 1
  | .agg parts => uptoBulkAll parts + 1
  | .iface _ d => uptoBulk d + 1
  | .map entries => uptoBulkEntries entries + 1
  | .held _ => 1
def uptoBulkAll {H : Type} : List (DataW H) → Nat
  | [] => 0
  | d :: r => uptoBulk d + uptoBulkAll r
def uptoBulkEntries {H : Type} : List (Lit × DataW H) → Nat
  | [] => 0
  | x :: r => uptoBulkEntry x + uptoBulkEntries r
def uptoBulkEntry {H : Type} : Lit × DataW H → Nat
  | (.string bytes, d) => bytes.length + uptoBulk d + 1
  | (_, d) => uptoBulk d + 1
 end
def uptoSmall : (H : Type) → List (DataW H) → Bool := fun _ ds => decide (uptoBulkAll ds ≤ 1048576)
def OpenSpec.upto (s : _root_.Go.ChangeSpec) : _root_.Go.OpenSpec := { _root_.Go.OpenSpec.ofChange s with cond := some uptoSmall }

/-- 'carousellaw10.ShardsMake', WHERE WHAT IT READS IS OF BULK AT MOST 1048576: true; the input reads as it did. -/
def shardsMakeUptoRow : OpenClaim := { program := "ytdlmkdldmiiaiaa", sum := "9834c4f19b45fad9d8055ad2e5439c90a92b048cb0099d3bc8c97c9d12e17766", func := "carousel/carousellaw10.ShardsMake", spec := "shardsMake", inPlace := ["internal/abi.NoEscape"], unfollowed := true, recurses := true, apart := false, narrowed := true }
def ShardsMakeUptoSaid : Prop := shardsMakeUptoRow.holds Try.pinned (OpenSpec.upto shardsMakeSpec)

/-- 'carousellaw10.ShardsWay', WHERE WHAT IT READS IS OF BULK AT MOST 1048576: true; the input reads as it did. -/
def shardsWayUptoRow : OpenClaim := { program := "ytdlmkdldmiiaiaa", sum := "9834c4f19b45fad9d8055ad2e5439c90a92b048cb0099d3bc8c97c9d12e17766", func := "carousel/carousellaw10.ShardsWay", spec := "shardsWay", inPlace := ["internal/abi.NoEscape"], unfollowed := true, recurses := true, apart := false, narrowed := true }
def ShardsWayUptoSaid : Prop := shardsWayUptoRow.holds Try.pinned (OpenSpec.upto shardsWaySpec)

/-- 'carousellaw10.ShardsNone', WHERE WHAT IT READS IS OF BULK AT MOST 1048576: true; the input reads as it did. -/
def shardsNoneUptoRow : OpenClaim := { program := "ytdlmkdldmiiaiaa", sum := "9834c4f19b45fad9d8055ad2e5439c90a92b048cb0099d3bc8c97c9d12e17766", func := "carousel/carousellaw10.ShardsNone", spec := "shardsNone", inPlace := ["internal/abi.NoEscape"], unfollowed := true, recurses := true, apart := false, narrowed := true }
def ShardsNoneUptoSaid : Prop := shardsNoneUptoRow.holds Try.pinned (OpenSpec.upto shardsNoneSpec)

/-- 'carousellaw10.ShardsTell', WHERE WHAT IT READS IS OF BULK AT MOST 1048576: true; the input reads as it did. -/
def shardsTellUptoRow : OpenClaim := { program := "ytdlmkdldmiiaiaa", sum := "9834c4f19b45fad9d8055ad2e5439c90a92b048cb0099d3bc8c97c9d12e17766", func := "carousel/carousellaw10.ShardsTell", spec := "shardsTell", inPlace := ["internal/abi.NoEscape"], unfollowed := true, recurses := true, apart := false, narrowed := true }
def ShardsTellUptoSaid : Prop := shardsTellUptoRow.holds Try.pinned (OpenSpec.upto shardsTellSpec)

/-- 'carousellaw10.ShardsBack', WHERE WHAT IT READS IS OF BULK AT MOST 1048576: true; the input reads as it did. -/
def shardsBackUptoRow : OpenClaim := { program := "ytdlmkdldmiiaiaa", sum := "9834c4f19b45fad9d8055ad2e5439c90a92b048cb0099d3bc8c97c9d12e17766", func := "carousel/carousellaw10.ShardsBack", spec := "shardsBack", inPlace := ["internal/abi.NoEscape"], unfollowed := true, recurses := true, apart := false, narrowed := true }
def ShardsBackUptoSaid : Prop := shardsBackUptoRow.holds Try.pinned (OpenSpec.upto shardsBackSpec)

/-- 'carousellaw10.ShardsTurned', WHERE WHAT IT READS IS OF BULK AT MOST 1048576: true; the input reads as it did. -/
def shardsTurnedUptoRow : OpenClaim := { program := "ytdlmkdldmiiaiaa", sum := "9834c4f19b45fad9d8055ad2e5439c90a92b048cb0099d3bc8c97c9d12e17766", func := "carousel/carousellaw10.ShardsTurned", spec := "shardsTurned", inPlace := ["internal/abi.NoEscape"], unfollowed := true, recurses := true, apart := false, narrowed := true }
def ShardsTurnedUptoSaid : Prop := shardsTurnedUptoRow.holds Try.pinned (OpenSpec.upto shardsTurnedSpec)

/-- 'carousellaw10.ShardsAll', WHERE WHAT IT READS IS OF BULK AT MOST 1048576: true; the input reads as it did. -/
def shardsAllUptoRow : OpenClaim := { program := "ytdlmkdldmiiaiaa", sum := "9834c4f19b45fad9d8055ad2e5439c90a92b048cb0099d3bc8c97c9d12e17766", func := "carousel/carousellaw10.ShardsAll", spec := "shardsAll", inPlace := ["internal/abi.NoEscape"], unfollowed := true, recurses := true, apart := false, narrowed := true }
def ShardsAllUptoSaid : Prop := shardsAllUptoRow.holds Try.pinned (OpenSpec.upto shardsAllSpec)

end Rows
end Go.Proofs.Ytdlmkdldmiiaiaa
