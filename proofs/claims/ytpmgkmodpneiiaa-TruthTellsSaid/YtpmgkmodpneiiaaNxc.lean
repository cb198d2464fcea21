/- The document's Next: what all kinds share. Conditions: those that each theorem names. -/
import Derived.Test.YtpmgkmodpneiiaaPbl
namespace Go.Proofs.Ytpmgkmodpneiiaa.E
open Go.RowKit Go.Sort Go.Shelf
open Go.Proofs.Ytpmgkmodpneiiaa.Ma
set_option linter.unusedVariables false
set_option linter.unusedSimpArgs false
theorem region_tail2 {P : Program} {id : Nat} {Q : Exit → Act → World → Prop} {a : Act} {w : World} {l : List Oper} (n : Nat) (hm : P.follows .mixedOrders = true) (hB : Region.lexTailB .any l.toArray n = true)
    (h : ∀ wd : World, wd = w.drew → wpStill P l.toArray wd (fun a' => wpList P l.toArray Q (l.drop n) a' wd) (l.take n) a) : (Code.region id l.toArray true).wp P Q a w :=
  wp_region_still_tail n hm hB (h w.drew rfl)
theorem zero_u (n : Nat) : (rowU 0 n 0).toArray = uC (List.replicate n 0) := by
  unfold rowU uC
  simp
theorem step_take {α β : Type} (f : β → α → β) (b : β) {L : List α} {j : Nat} {x : α} (h : L[j]? = some x) : (L.take (j + 1)).foldl f b = f ((L.take j).foldl f b) x := by
  rw [List.take_add_one, h, List.foldl_append]
  rfl
theorem foldB_len (now : List Nat) (L : List Ed) : (L.foldl (stepB now) now).length = now.length := nextB_len now L
theorem foldL_len (now : List Nat) (L : List Ed) : (L.foldl (stepL now) now).length = now.length := nextL_len now L
theorem foldS_len (now : List Nat) (n : Nat) (L : List Ed) : (L.foldl (stepS now) (List.replicate n 0)).length = n := sumS_len n now L
theorem foldR_len (now : List Nat) (n : Nat) (K L : List Ed) : (L.foldl (stepR K now) (List.replicate n 0)).length = n := by
  exact fold_inv0 (fun _ o => List.length o = n) L (List.replicate n 0) (by simp) (fun _ o e h _ => (give_len _ o _).trans h)
theorem succ_wrap {x : Nat} (h : x < M64) (hf : x ≠ farN) : IntKind.u64.wrap ((x : Int) + 1) = ((x + 1 : Nat) : Int) := by
  unfold farN at hf
  unfold M64 at h
  rw [IntWalk.u64_in _ ⟨by omega, by omega⟩]
  omega
theorem min_cast (x y : Nat) : min (x : Int) (y : Int) = ((min x y : Nat) : Int) := by
  simp only [Nat.min_def, Int.min_def]
  split <;> split <;> omega
theorem begins_in {A : Option Addr} {c u b : Nat} {L : List Ed} {w : World} (hb : begins L u = b) (hL : Lies enc2 2 w A L) (hl : L.length ≤ 5000) :
    Calls Try.prog 37 #[.slice A L.length c, .int .i64 (u : Int)] w fun e w' => e = .returned (.int .u64 (b : Nat)) ∧ w' = w := by
  have := begins_at A c u L w hL hl
  rw [hb] at this
  exact this.mono fun _ _ ⟨h1, h2⟩ => ⟨h1, h2.symm⟩
end Go.Proofs.Ytpmgkmodpneiiaa.E
