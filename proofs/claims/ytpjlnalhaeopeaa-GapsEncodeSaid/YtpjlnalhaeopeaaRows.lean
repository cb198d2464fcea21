/-
  No cell of these rows narrows 'for every input' (looked for: loops, veiled, ifaces, maps, wideKeys, modest, calm, conditions, laid).
  DERIVED. THE GIVEN ROWS OF THIS SEAT. 6 by the template 'for every input the law returns true; each argument reads behind the call as it read before'; 0 by the template 'total and deterministic' (their statements: YtpjlnalhaeopeaaTotals.lean).
  GIVEN WITH THE SEED: the statements are not yours to turn. If you find one false, say at which input.
  Laid BY PROGRAM, IN A SANDBOX (cutbox-rows.mjs): the forced cells as the released guide's own fill.sh prints them over the translation e290a59d9a91cdf7… (all of the seat's roots in one cut). By AI agents, Wed Nov 11 2026. No macro, syntax, notation, axiom, sorry.
-/
import Derived.Test.YtpjlnalhaeopeaaChecked
import GoSem.Claim
import GoSem.ClaimJoined
import GoSem.ClaimMapViews
import Derived.JoinedTies
import Derived.KernelRfl
namespace Go.Proofs.Ytpjlnalhaeopeaa
/- THE CELL 'sum', in the pinned program and in every row, IS THE sha256 OF THE DUMP (.gsa) THAT YtpjlnalhaeopeaaProg.lean LOADS. Nothing in Lean hashes anything: it is a label: what it is worth is what the hold of that sum in a sandbox is worth. -/
noncomputable def Try.pinned : Pinned := { name := "ytpjlnalhaeopeaa", sum := "e290a59d9a91cdf7d5762ab27bfe1adf8513bf66a7a70d264915e38b031904b5", checked := Try.checked }
namespace Rows
def none {H : Type} : Left H := { results := [], args := [] }

/-- 'carousellaw02.GapsEncode': WHATEVER THE INPUT: true; the input reads as it did. -/
def gapsEncodeSpec : ChangeSpec := { name := "gapsEncode", fn := fun _ => fun
  | [d] => { results := [.lit (.bool true)], args := [d] }
  | _ => none }
def gapsEncodeRow : OpenClaim := { program := "ytpjlnalhaeopeaa", sum := "e290a59d9a91cdf7d5762ab27bfe1adf8513bf66a7a70d264915e38b031904b5", func := "carousel/carousellaw02.GapsEncode", spec := "gapsEncode", inPlace := ["internal/abi.NoEscape"], unfollowed := true, recurses := true, apart := false }
def GapsEncodeSaid : Prop := gapsEncodeRow.holds Try.pinned (OpenSpec.ofChange gapsEncodeSpec)

/-- ITS FALSE NEIGHBOUR: 'it returns false'. Refute it at one input. -/
def gapsEncodeWrong : ChangeSpec := { name := "gapsEncode", fn := fun _ => fun
  | [d] => { results := [.lit (.bool false)], args := [d] }
  | _ => none }
def GapsEncodeWrongFalsely : Prop := gapsEncodeRow.holds Try.pinned (OpenSpec.ofChange gapsEncodeWrong)

/-- 'carousellaw02.GapsDecode': WHATEVER THE INPUT: true; the input reads as it did. -/
def gapsDecodeSpec : ChangeSpec := { name := "gapsDecode", fn := fun _ => fun
  | [d1, d2] => { results := [.lit (.bool true)], args := [d1, d2] }
  | _ => none }
def gapsDecodeRow : OpenClaim := { program := "ytpjlnalhaeopeaa", sum := "e290a59d9a91cdf7d5762ab27bfe1adf8513bf66a7a70d264915e38b031904b5", func := "carousel/carousellaw02.GapsDecode", spec := "gapsDecode", inPlace := ["internal/abi.NoEscape"], unfollowed := true, recurses := true, apart := false }
def GapsDecodeSaid : Prop := gapsDecodeRow.holds Try.pinned (OpenSpec.ofChange gapsDecodeSpec)

/-- ITS FALSE NEIGHBOUR: 'it returns false'. Refute it at one input. -/
def gapsDecodeWrong : ChangeSpec := { name := "gapsDecode", fn := fun _ => fun
  | [d1, d2] => { results := [.lit (.bool false)], args := [d1, d2] }
  | _ => none }
def GapsDecodeWrongFalsely : Prop := gapsDecodeRow.holds Try.pinned (OpenSpec.ofChange gapsDecodeWrong)

/-- 'carousellaw02.GapsBack': WHATEVER THE INPUT: true; the input reads as it did. -/
def gapsBackSpec : ChangeSpec := { name := "gapsBack", fn := fun _ => fun
  | [d1, d2, d3] => { results := [.lit (.bool true)], args := [d1, d2, d3] }
  | _ => none }
def gapsBackRow : OpenClaim := { program := "ytpjlnalhaeopeaa", sum := "e290a59d9a91cdf7d5762ab27bfe1adf8513bf66a7a70d264915e38b031904b5", func := "carousel/carousellaw02.GapsBack", spec := "gapsBack", inPlace := ["internal/abi.NoEscape"], unfollowed := true, recurses := true, apart := false }
def GapsBackSaid : Prop := gapsBackRow.holds Try.pinned (OpenSpec.ofChange gapsBackSpec)

/-- ITS FALSE NEIGHBOUR: 'it returns false'. Refute it at one input. -/
def gapsBackWrong : ChangeSpec := { name := "gapsBack", fn := fun _ => fun
  | [d1, d2, d3] => { results := [.lit (.bool false)], args := [d1, d2, d3] }
  | _ => none }
def GapsBackWrongFalsely : Prop := gapsBackRow.holds Try.pinned (OpenSpec.ofChange gapsBackWrong)

/-- 'carousellaw02.GapsCut': WHATEVER THE INPUT: true; the input reads as it did. -/
def gapsCutSpec : ChangeSpec := { name := "gapsCut", fn := fun _ => fun
  | [d1, d2] => { results := [.lit (.bool true)], args := [d1, d2] }
  | _ => none }
def gapsCutRow : OpenClaim := { program := "ytpjlnalhaeopeaa", sum := "e290a59d9a91cdf7d5762ab27bfe1adf8513bf66a7a70d264915e38b031904b5", func := "carousel/carousellaw02.GapsCut", spec := "gapsCut", inPlace := ["internal/abi.NoEscape"], unfollowed := true, recurses := true, apart := false }
def GapsCutSaid : Prop := gapsCutRow.holds Try.pinned (OpenSpec.ofChange gapsCutSpec)

/-- ITS FALSE NEIGHBOUR: 'it returns false'. Refute it at one input. -/
def gapsCutWrong : ChangeSpec := { name := "gapsCut", fn := fun _ => fun
  | [d1, d2] => { results := [.lit (.bool false)], args := [d1, d2] }
  | _ => none }
def GapsCutWrongFalsely : Prop := gapsCutRow.holds Try.pinned (OpenSpec.ofChange gapsCutWrong)

/-- 'carousellaw02.GapsBits': WHATEVER THE INPUT: true; the input reads as it did. -/
def gapsBitsSpec : ChangeSpec := { name := "gapsBits", fn := fun _ => fun
  | [d] => { results := [.lit (.bool true)], args := [d] }
  | _ => none }
def gapsBitsRow : OpenClaim := { program := "ytpjlnalhaeopeaa", sum := "e290a59d9a91cdf7d5762ab27bfe1adf8513bf66a7a70d264915e38b031904b5", func := "carousel/carousellaw02.GapsBits", spec := "gapsBits", inPlace := ["internal/abi.NoEscape"], unfollowed := true, recurses := true, apart := false }
def GapsBitsSaid : Prop := gapsBitsRow.holds Try.pinned (OpenSpec.ofChange gapsBitsSpec)

/-- ITS FALSE NEIGHBOUR: 'it returns false'. Refute it at one input. -/
def gapsBitsWrong : ChangeSpec := { name := "gapsBits", fn := fun _ => fun
  | [d] => { results := [.lit (.bool false)], args := [d] }
  | _ => none }
def GapsBitsWrongFalsely : Prop := gapsBitsRow.holds Try.pinned (OpenSpec.ofChange gapsBitsWrong)

/-- 'carousellaw02.GapsTwo': WHATEVER THE INPUT: true; the input reads as it did. -/
def gapsTwoSpec : ChangeSpec := { name := "gapsTwo", fn := fun _ => fun
  | [d1, d2] => { results := [.lit (.bool true)], args := [d1, d2] }
  | _ => none }
def gapsTwoRow : OpenClaim := { program := "ytpjlnalhaeopeaa", sum := "e290a59d9a91cdf7d5762ab27bfe1adf8513bf66a7a70d264915e38b031904b5", func := "carousel/carousellaw02.GapsTwo", spec := "gapsTwo", inPlace := ["internal/abi.NoEscape"], unfollowed := true, recurses := true, apart := false }
def GapsTwoSaid : Prop := gapsTwoRow.holds Try.pinned (OpenSpec.ofChange gapsTwoSpec)

/-- ITS FALSE NEIGHBOUR: 'it returns false'. Refute it at one input. -/
def gapsTwoWrong : ChangeSpec := { name := "gapsTwo", fn := fun _ => fun
  | [d1, d2] => { results := [.lit (.bool false)], args := [d1, d2] }
  | _ => none }
def GapsTwoWrongFalsely : Prop := gapsTwoRow.holds Try.pinned (OpenSpec.ofChange gapsTwoWrong)

/- THE SECOND FORM. 'bulk': how many values and letters a reading holds, each counted each time it is reached (what is shared counts as often as it is met; a slice's spare places count too). A statement '..UptoSaid' is the law's where the arguments, and the package variables that the reading takes, are together of bulk at most 1048576: NARROWER than '..Said'. Prove '..Said' where nothing that the law and all that it calls make is longer than what came in: it says more and counts as full. Else prove '..UptoSaid'. A law counts once. -/
mutual
def uptoBulk {H : Type} : DataW H → Nat
  | .lit (.string bytes) => bytes.length + 1
  | .lit _ => 1
  | .nil => 1
  | .ptr d => uptoBulk d + 1
  | .slice elems spare => uptoBulkAll elems + uptoBulkAll spare + 1
  | .agg parts => uptoBulkAll parts + 1
  | .iface _ d => uptoBulk d + 1
  | .map entries => uptoBulkEntries entries + 1
  | .held _ => 1
def uptoBulkAll {H : Type} : List (DataW H) → Nat
  | [] => 0
  | d :: r => uptoBulk d + uptoBulkAll r
def uptoBulkEntries {H : Type} : List (Lit × DataW H) → Nat
  | [] => 0
  | x :: r => uptoBulkEntry x + uptoBulkEntries r
def uptoBulkEntry {H : Type} : Lit × DataW H → Nat
  | (.string bytes, d) => bytes.length + uptoBulk d + 1
  | (_, d) => uptoBulk d + 1
 end
def uptoSmall : (H : Type) → List (DataW H) → Bool := fun _ ds => decide (uptoBulkAll ds ≤ 1048576)
def OpenSpec.upto (s : _root_.Go.ChangeSpec) : _root_.Go.OpenSpec := { _root_.Go.OpenSpec.ofChange s with cond := some uptoSmall }

/-- 'carousellaw02.GapsEncode', WHERE WHAT IT READS IS OF BULK AT MOST 1048576: true; the input reads as it did. -/
def gapsEncodeUptoRow : OpenClaim := { program := "ytpjlnalhaeopeaa", sum := "e290a59d9a91cdf7d5762ab27bfe1adf8513bf66a7a70d264915e38b031904b5", func := "carousel/carousellaw02.GapsEncode", spec := "gapsEncode", inPlace := ["internal/abi.NoEscape"], unfollowed := true, recurses := true, apart := false, narrowed := true }
def GapsEncodeUptoSaid : Prop := gapsEncodeUptoRow.holds Try.pinned (OpenSpec.upto gapsEncodeSpec)

/-- 'carousellaw02.GapsDecode', WHERE WHAT IT READS IS OF BULK AT MOST 1048576: true; the input reads as it did. -/
def gapsDecodeUptoRow : OpenClaim := { program := "ytpjlnalhaeopeaa", sum := "e290a59d9a91cdf7d5762ab27bfe1adf8513bf66a7a70d264915e38b031904b5", func := "carousel/carousellaw02.GapsDecode", spec := "gapsDecode", inPlace := ["internal/abi.NoEscape"], unfollowed := true, recurses := true, apart := false, narrowed := true }
def GapsDecodeUptoSaid : Prop := gapsDecodeUptoRow.holds Try.pinned (OpenSpec.upto gapsDecodeSpec)

/-- 'carousellaw02.GapsBack', WHERE WHAT IT READS IS OF BULK AT MOST 1048576: true; the input reads as it did. -/
def gapsBackUptoRow : OpenClaim := { program := "ytpjlnalhaeopeaa", sum := "e290a59d9a91cdf7d5762ab27bfe1adf8513bf66a7a70d264915e38b031904b5", func := "carousel/carousellaw02.GapsBack", spec := "gapsBack", inPlace := ["internal/abi.NoEscape"], unfollowed := true, recurses := true, apart := false, narrowed := true }
def GapsBackUptoSaid : Prop := gapsBackUptoRow.holds Try.pinned (OpenSpec.upto gapsBackSpec)

/-- 'carousellaw02.GapsCut', WHERE WHAT IT READS IS OF BULK AT MOST 1048576: true; the input reads as it did. -/
def gapsCutUptoRow : OpenClaim := { program := "ytpjlnalhaeopeaa", sum := "e290a59d9a91cdf7d5762ab27bfe1adf8513bf66a7a70d264915e38b031904b5", func := "carousel/carousellaw02.GapsCut", spec := "gapsCut", inPlace := ["internal/abi.NoEscape"], unfollowed := true, recurses := true, apart := false, narrowed := true }
def GapsCutUptoSaid : Prop := gapsCutUptoRow.holds Try.pinned (OpenSpec.upto gapsCutSpec)

/-- 'carousellaw02.GapsBits', WHERE WHAT IT READS IS OF BULK AT MOST 1048576: true; the input reads as it did. -/
def gapsBitsUptoRow : OpenClaim := { program := "ytpjlnalhaeopeaa", sum := "e290a59d9a91cdf7d5762ab27bfe1adf8513bf66a7a70d264915e38b031904b5", func := "carousel/carousellaw02.GapsBits", spec := "gapsBits", inPlace := ["internal/abi.NoEscape"], unfollowed := true, recurses := true, apart := false, narrowed := true }
def GapsBitsUptoSaid : Prop := gapsBitsUptoRow.holds Try.pinned (OpenSpec.upto gapsBitsSpec)

/-- 'carousellaw02.GapsTwo', WHERE WHAT IT READS IS OF BULK AT MOST 1048576: true; the input reads as it did. -/
def gapsTwoUptoRow : OpenClaim := { program := "ytpjlnalhaeopeaa", sum := "e290a59d9a91cdf7d5762ab27bfe1adf8513bf66a7a70d264915e38b031904b5", func := "carousel/carousellaw02.GapsTwo", spec := "gapsTwo", inPlace := ["internal/abi.NoEscape"], unfollowed := true, recurses := true, apart := false, narrowed := true }
def GapsTwoUptoSaid : Prop := gapsTwoUptoRow.holds Try.pinned (OpenSpec.upto gapsTwoSpec)

end Rows
end Go.Proofs.Ytpjlnalhaeopeaa
