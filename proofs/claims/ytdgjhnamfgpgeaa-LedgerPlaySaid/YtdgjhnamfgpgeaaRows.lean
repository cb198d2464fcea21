/-
  No cell of these rows narrows 'for every input' (looked for: loops, veiled, ifaces, maps, wideKeys, modest, calm, conditions, laid).
  DERIVED. THE GIVEN ROWS OF THIS SEAT. 4 by the template 'for every input the law returns true; each argument reads behind the call as it read before'; 0 by the template 'total and deterministic' (their statements: YtdgjhnamfgpgeaaTotals.lean).
  GIVEN WITH THE SEED: the statements are not yours to turn. If you find one false, say at which input.
  Laid BY PROGRAM, IN A SANDBOX (cutbox-rows.mjs): the forced cells as the released guide's own fill.sh prints them over the translation 512d08a102d4bc8f… (all of the seat's roots in one cut). By AI agents, Wed Nov 11 2026. No macro, syntax, notation, axiom, sorry.
-/
import Derived.Test.YtdgjhnamfgpgeaaChecked
import GoSem.Claim
import GoSem.ClaimJoined
import GoSem.ClaimMapViews
import Derived.JoinedTies
import Derived.KernelRfl
namespace Go.Proofs.Ytdgjhnamfgpgeaa
/- THE CELL 'sum', in the pinned program and in every row, IS THE sha256 OF THE DUMP (.gsa) THAT YtdgjhnamfgpgeaaProg.lean LOADS. Nothing in Lean hashes anything: it is a label: what it is worth is what the hold of that sum in a sandbox is worth. -/
noncomputable def Try.pinned : Pinned := { name := "ytdgjhnamfgpgeaa", sum := "512d08a102d4bc8fa8ea77a9858fb78091cbcf270e9302ba23ba260b42ec11c3", checked := Try.checked }
namespace Rows
def none {H : Type} : Left H := { results := [], args := [] }

/-- 'carousellaw23.LedgerPlay': WHATEVER THE INPUT: true; the input reads as it did. -/
def ledgerPlaySpec : ChangeSpec := { name := "ledgerPlay", fn := fun _ => fun
  | [d1, d2] => { results := [.lit (.bool true)], args := [d1, d2] }
  | _ => none }
def ledgerPlayRow : OpenClaim := { program := "ytdgjhnamfgpgeaa", sum := "512d08a102d4bc8fa8ea77a9858fb78091cbcf270e9302ba23ba260b42ec11c3", func := "carousel/carousellaw23.LedgerPlay", spec := "ledgerPlay", inPlace := ["sync/atomic.LoadUint64", "sync/atomic.AddUint64", "sync/atomic.StoreUint64"], unfollowed := true, recurses := true, apart := false }
def LedgerPlaySaid : Prop := ledgerPlayRow.holds Try.pinned (OpenSpec.ofChange ledgerPlaySpec)

/-- ITS FALSE NEIGHBOUR: 'it returns false'. Refute it at one input. -/
def ledgerPlayWrong : ChangeSpec := { name := "ledgerPlay", fn := fun _ => fun
  | [d1, d2] => { results := [.lit (.bool false)], args := [d1, d2] }
  | _ => none }
def LedgerPlayWrongFalsely : Prop := ledgerPlayRow.holds Try.pinned (OpenSpec.ofChange ledgerPlayWrong)

/-- 'carousellaw23.LedgerNone': WHATEVER THE INPUT: true; the input reads as it did. -/
def ledgerNoneSpec : ChangeSpec := { name := "ledgerNone", fn := fun _ => fun
  | [d] => { results := [.lit (.bool true)], args := [d] }
  | _ => none }
def ledgerNoneRow : OpenClaim := { program := "ytdgjhnamfgpgeaa", sum := "512d08a102d4bc8fa8ea77a9858fb78091cbcf270e9302ba23ba260b42ec11c3", func := "carousel/carousellaw23.LedgerNone", spec := "ledgerNone", inPlace := ["sync/atomic.LoadUint64", "sync/atomic.AddUint64", "sync/atomic.StoreUint64"], unfollowed := true, recurses := true, apart := false }
def LedgerNoneSaid : Prop := ledgerNoneRow.holds Try.pinned (OpenSpec.ofChange ledgerNoneSpec)

/-- ITS FALSE NEIGHBOUR: 'it returns false'. Refute it at one input. -/
def ledgerNoneWrong : ChangeSpec := { name := "ledgerNone", fn := fun _ => fun
  | [d] => { results := [.lit (.bool false)], args := [d] }
  | _ => none }
def LedgerNoneWrongFalsely : Prop := ledgerNoneRow.holds Try.pinned (OpenSpec.ofChange ledgerNoneWrong)

/-- 'carousellaw23.LedgerSum': WHATEVER THE INPUT: true; the input reads as it did. -/
def ledgerSumSpec : ChangeSpec := { name := "ledgerSum", fn := fun _ => fun
  | [d1, d2] => { results := [.lit (.bool true)], args := [d1, d2] }
  | _ => none }
def ledgerSumRow : OpenClaim := { program := "ytdgjhnamfgpgeaa", sum := "512d08a102d4bc8fa8ea77a9858fb78091cbcf270e9302ba23ba260b42ec11c3", func := "carousel/carousellaw23.LedgerSum", spec := "ledgerSum", inPlace := ["sync/atomic.LoadUint64", "sync/atomic.AddUint64", "sync/atomic.StoreUint64"], unfollowed := true, recurses := true, apart := false }
def LedgerSumSaid : Prop := ledgerSumRow.holds Try.pinned (OpenSpec.ofChange ledgerSumSpec)

/-- ITS FALSE NEIGHBOUR: 'it returns false'. Refute it at one input. -/
def ledgerSumWrong : ChangeSpec := { name := "ledgerSum", fn := fun _ => fun
  | [d1, d2] => { results := [.lit (.bool false)], args := [d1, d2] }
  | _ => none }
def LedgerSumWrongFalsely : Prop := ledgerSumRow.holds Try.pinned (OpenSpec.ofChange ledgerSumWrong)

/-- 'carousellaw23.LedgerLast': WHATEVER THE INPUT: true; the input reads as it did. -/
def ledgerLastSpec : ChangeSpec := { name := "ledgerLast", fn := fun _ => fun
  | [d1, d2] => { results := [.lit (.bool true)], args := [d1, d2] }
  | _ => none }
def ledgerLastRow : OpenClaim := { program := "ytdgjhnamfgpgeaa", sum := "512d08a102d4bc8fa8ea77a9858fb78091cbcf270e9302ba23ba260b42ec11c3", func := "carousel/carousellaw23.LedgerLast", spec := "ledgerLast", inPlace := ["sync/atomic.LoadUint64", "sync/atomic.AddUint64", "sync/atomic.StoreUint64"], unfollowed := true, recurses := true, apart := false }
def LedgerLastSaid : Prop := ledgerLastRow.holds Try.pinned (OpenSpec.ofChange ledgerLastSpec)

/-- ITS FALSE NEIGHBOUR: 'it returns false'. Refute it at one input. -/
def ledgerLastWrong : ChangeSpec := { name := "ledgerLast", fn := fun _ => fun
  | [d1, d2] => { results := [.lit (.bool false)], args := [d1, d2] }
  | _ => none }
def LedgerLastWrongFalsely : Prop := ledgerLastRow.holds Try.pinned (OpenSpec.ofChange ledgerLastWrong)

/- THE SECOND FORM. 'bulk': how many values and letters a reading holds, each counted each time it is reached (what is shared counts as often as it is met; a slice's spare places count too). A statement '..UptoSaid' is the law's where the arguments, and the package variables that the reading takes, are together of bulk at most 1048576: NARROWER than '..Said'. Prove '..Said' where nothing that the law and all that it calls make is longer than what came in: it says more and counts as full. Else prove '..UptoSaid'. A law counts once. -/
mutual
def uptoBulk {H : Type} : DataW H → Nat
  | .lit (.string bytes) => bytes.length + 1
  | .lit _ => 1
  | .nil => 1
  | .ptr d => uptoBulk d + 1
  | .slice elems spare => uptoBulkAll elems + uptoBulkAll spare + 1
  | .agg parts => uptoBulkAll parts + 1
  | .iface _ d => uptoBulk d + 1
  | .map entries => uptoBulkEntries entries + 1
  | .held _ => 1
def uptoBulkAll {H : Type} : List (DataW H) → Nat
  | [] => 0
  | d :: r => uptoBulk d + uptoBulkAll r
def uptoBulkEntries {H : Type} : List (Lit × DataW H) → Nat
  | [] => 0
  | x :: r => uptoBulkEntry x + uptoBulkEntries r
def uptoBulkEntry {H : Type} : Lit × DataW H → Nat
  | (.string bytes, d) => bytes.length + uptoBulk d + 1
  | (_, d) => uptoBulk d + 1
 end
def uptoSmall : (H : Type) → List (DataW H) → Bool := fun _ ds => decide (uptoBulkAll ds ≤ 1048576)
def OpenSpec.upto (s : _root_.Go.ChangeSpec) : _root_.Go.OpenSpec := { _root_.Go.OpenSpec.ofChange s with cond := some uptoSmall }

/-- 'carousellaw23.LedgerPlay', WHERE WHAT IT READS IS OF BULK AT MOST 1048576: true; the input reads as it did. -/
def ledgerPlayUptoRow : OpenClaim := { program := "ytdgjhnamfgpgeaa", sum := "512d08a102d4bc8fa8ea77a9858fb78091cbcf270e9302ba23ba260b42ec11c3", func := "carousel/carousellaw23.LedgerPlay", spec := "ledgerPlay", inPlace := ["sync/atomic.LoadUint64", "sync/atomic.AddUint64", "sync/atomic.StoreUint64"], unfollowed := true, recurses := true, apart := false, narrowed := true }
def LedgerPlayUptoSaid : Prop := ledgerPlayUptoRow.holds Try.pinned (OpenSpec.upto ledgerPlaySpec)

/-- 'carousellaw23.LedgerNone', WHERE WHAT IT READS IS OF BULK AT MOST 1048576: true; the input reads as it did. -/
def ledgerNoneUptoRow : OpenClaim := { program := "ytdgjhnamfgpgeaa", sum := "512d08a102d4bc8fa8ea77a9858fb78091cbcf270e9302ba23ba260b42ec11c3", func := "carousel/carousellaw23.LedgerNone", spec := "ledgerNone", inPlace := ["sync/atomic.LoadUint64", "sync/atomic.AddUint64", "sync/atomic.StoreUint64"], unfollowed := true, recurses := true, apart := false, narrowed := true }
def LedgerNoneUptoSaid : Prop := ledgerNoneUptoRow.holds Try.pinned (OpenSpec.upto ledgerNoneSpec)

/-- 'carousellaw23.LedgerSum', WHERE WHAT IT READS IS OF BULK AT MOST 1048576: true; the input reads as it did. -/
def ledgerSumUptoRow : OpenClaim := { program := "ytdgjhnamfgpgeaa", sum := "512d08a102d4bc8fa8ea77a9858fb78091cbcf270e9302ba23ba260b42ec11c3", func := "carousel/carousellaw23.LedgerSum", spec := "ledgerSum", inPlace := ["sync/atomic.LoadUint64", "sync/atomic.AddUint64", "sync/atomic.StoreUint64"], unfollowed := true, recurses := true, apart := false, narrowed := true }
def LedgerSumUptoSaid : Prop := ledgerSumUptoRow.holds Try.pinned (OpenSpec.upto ledgerSumSpec)

/-- 'carousellaw23.LedgerLast', WHERE WHAT IT READS IS OF BULK AT MOST 1048576: true; the input reads as it did. -/
def ledgerLastUptoRow : OpenClaim := { program := "ytdgjhnamfgpgeaa", sum := "512d08a102d4bc8fa8ea77a9858fb78091cbcf270e9302ba23ba260b42ec11c3", func := "carousel/carousellaw23.LedgerLast", spec := "ledgerLast", inPlace := ["sync/atomic.LoadUint64", "sync/atomic.AddUint64", "sync/atomic.StoreUint64"], unfollowed := true, recurses := true, apart := false, narrowed := true }
def LedgerLastUptoSaid : Prop := ledgerLastUptoRow.holds Try.pinned (OpenSpec.upto ledgerLastSpec)

end Rows
end Go.Proofs.Ytdgjhnamfgpgeaa
