/- What the edges' small functions do, each once: the order of edges, lists held against each other. Conditions: those that each theorem names. -/
import Derived.WalkKit
import Derived.OwnWalk
import Derived.Laws.LoneSync
import Derived.Laws.OwnMore
import Derived.Laws.StructEq
import Derived.Deep.QuietTactic
import Derived.BigQuiet
import Derived.WalkSpells
import Derived.WalkLawsBesides
import Derived.Deep.RegionHeld3
import Derived.Deep.RegionLaw
import Derived.Deep.DrawnRows
import Derived.StillTailTactics
import Derived.Lib.Hide
import Derived.Maps.AppendAt
import Derived.Shelf.SlicesE.Kit
import Derived.Shelf.SlSortCmp.QuietGrown
import Derived.Test.YtdlmkdldmiiaiaaShq
import Derived.Test.YtdlmkdldmiiaiaaMa
namespace Go.Proofs.Ytdlmkdldmiiaiaa.D
open Go.RowKit Go.Sort Go.Shelf
open Go.Proofs.Ytdlmkdldmiiaiaa.Ma
set_option linter.unusedVariables false
set_option linter.unusedSimpArgs false
abbrev Ed := Int × Int
abbrev enc2 (x : Ed) : List Value := [.int .i64 x.1, .int .i64 x.2]
abbrev encI (x : Int) : List Value := [.int .i64 x]
theorem enc2_len (x : Ed) : (enc2 x).length = 2 := rfl
theorem encI_len (x : Int) : (encI x).length = 1 := rfl
theorem enc2_one (x : Ed) : ∀ v ∈ enc2 x, v.oneCell' = true := fun v hv => by
  simp [enc2] at hv
  rcases hv with rfl | rfl <;> rfl
def orZ (x y : Int) : Int := if x = 0 then y else x
def cf (x y : Ed) : Int := orZ (Lib.compareInt x.1 y.1) (Lib.compareInt x.2 y.2)
theorem cmp_any (x y : Int) (w : World) : Calls Try.prog 82 #[.int .i64 x, .int .i64 y] w fun e w' => e = .returned (.int .i64 (Lib.compareInt x y)) ∧ w = w' :=
  (AnyG.cmp_Compare_int Try.cmpInt x y w).mono fun _ _ ⟨he, hw⟩ => ⟨he, hw.symm⟩
theorem or_two (x y : Int) (b : Nat) (w : World) (h0 : w.cell? ⟨b, 0, none⟩ = some (.int .i64 x)) (h1 : w.cell? ⟨b, 1, none⟩ = some (.int .i64 y)) : Calls Try.prog 81 #[.slice (some ⟨b, 0, none⟩) 2 2] w fun e w' => e = .returned (.int .i64 (orZ x y)) ∧ w = w' := by
  unfold orZ
  by_cases hx : x = 0
  · subst hx
    rw [if_pos rfl]
    go_enter Try.func81, Try.ntmps81
    go_wp2
    go_loop [5, 8] (fun _ i => i = .int .i64 0 ∨ i = .int .i64 1 ∨ (i = .int .i64 2 ∧ y = 0)) (fun _ i => 2 - (intOf i).toNat)
    case atStart => exact .inl rfl
    case round =>
      rcases hrel with rfl | rfl | ⟨rfl, rfl⟩
      · go_wp2
        go_round
        case rel => exact .inr (.inl rfl)
        case measure => simp [intOf]
      · by_cases hy : y = 0
        · have e2 : (y != 0) = false := by simpa using hy
          have HY := Lib.hid hy
          clear hy
          go_wp2
          go_round
          case rel => exact .inr (.inr ⟨rfl, HY.out⟩)
          case measure => simp [intOf]
        · have e2 : (y != 0) = true := by simpa using hy
          clear hy
          go_wp2
          go_ret
          exact ⟨rfl, rfl⟩
      · go_wp2
        go_ret
        exact ⟨rfl, rfl⟩
  · rw [if_neg hx]
    have e1 : (x != 0) = true := by simpa using hx
    clear hx
    go_enter Try.func81, Try.ntmps81
    go_wp2
    go_loop [5, 8] (fun _ i => i = .int .i64 0) (fun _ i => 2 - (intOf i).toNat)
    case atStart => rfl
    case round =>
      subst hrel
      go_wp2
      go_ret
      exact ⟨rfl, rfl⟩
/-- w' is w with so many draws and blocks behind. -/
def Grown (w w' : World) : Prop := ∃ q os, w' = grow (w.drewN q) os
theorem grow_drew (w : World) (q : Nat) (os : Array Obj) : (grow w os).drewN q = grow (w.drewN q) os := rfl
theorem Grown.refl (w : World) : Grown w w := ⟨0, #[], by simp; rfl⟩
theorem Grown.trans {a b c : World} (h : Grown a b) (k : Grown b c) : Grown a c := by
  obtain ⟨q, os, rfl⟩ := h
  obtain ⟨r, ps, rfl⟩ := k
  exact ⟨q + r, os ++ ps, by rw [grow_drew, grow_grow, World.drewN_drewN]⟩
theorem Grown.alloc {a b : World} (h : Grown a b) (o : Obj) : Grown a (b.alloc o) := h.trans ⟨0, #[o], by rw [alloc_eq_grow]; rfl⟩
theorem Grown.drewN {a b : World} (h : Grown a b) (m : Nat) : Grown a (b.drewN m) := h.trans ⟨m, #[], by simp⟩
theorem Grown.below {a b : World} (h : Grown a b) : Below a.heap.size a b := by
  obtain ⟨q, os, rfl⟩ := h
  exact ⟨rfl, rfl, rfl, by simp [World.drewN], fun k hk => heap_grow_old (a.drewN q) os hk⟩
/-- Two boxed edges. -/
theorem boxed22 (w : World) (x1 x2 y1 y2 : Int) (T : TypeId) : ∃ W : World, (w.alloc (.cells #[.int .i64 x1, .int .i64 x2] T)).alloc (.cells #[.int .i64 y1, .int .i64 y2] T) = W ∧ W.heap[w.heap.size]? = some (.cells #[.int .i64 x1, .int .i64 x2] T (0, 0)) ∧ W.heap[w.heap.size + 1]? = some (.cells #[.int .i64 y1, .int .i64 y2] T (0, 0)) ∧ W.heap.size = w.heap.size + 2 ∧ Grown w W := by
  refine ⟨_, rfl, ?_, ?_, by simp, ((Grown.refl w).alloc _).alloc _⟩
  · rw [Below.heap_alloc _ _ _ (by simp)]
    exact heap_alloc_new w _
  · have := heap_alloc_new (w.alloc (.cells #[.int .i64 x1, .int .i64 x2] T)) (.cells #[.int .i64 y1, .int .i64 y2] T (0, 0))
    rwa [show (w.alloc (.cells #[.int .i64 x1, .int .i64 x2] T)).heap.size = w.heap.size + 1 by simp] at this
theorem boxed2 (w : World) (x1 x2 : Int) (T : TypeId) : ∃ W : World, w.alloc (.cells #[.int .i64 x1, .int .i64 x2] T) = W ∧ W.heap[w.heap.size]? = some (.cells #[.int .i64 x1, .int .i64 x2] T (0, 0)) ∧ Below w.heap.size w W ∧ W.heap.size = w.heap.size + 1 ∧ Grown w W := by
  refine ⟨_, rfl, heap_alloc_new w _, (Below.refl _ _).alloc (Nat.le_refl _) _, by simp, (Grown.refl w).alloc _⟩
theorem or_new (x y : Int) (w : World) : Calls Try.prog 81 #[.slice (some ⟨w.heap.size, 0, none⟩) 2 2] (w.alloc (.cells #[.int .i64 x, .int .i64 y] 3 (0, 0))) fun e w' => e = .returned (.int .i64 (orZ x y)) ∧ w.alloc (.cells #[.int .i64 x, .int .i64 y] 3 (0, 0)) = w' :=
  or_two x y w.heap.size _ (cell_of_heap (i := 0) (heap_alloc_new w _) rfl) (cell_of_heap (i := 1) (heap_alloc_new w _) rfl)
set_option maxHeartbeats 1000000 in
theorem by_any (x y : Ed) (w : World) : Calls Try.prog 59 #[.agg (enc2 x).toArray, .agg (enc2 y).toArray] w fun e w' => e = .returned (.int .i64 (cf x y)) ∧ Grown w w' := by
  unfold cf
  obtain ⟨x1, x2⟩ := x
  obtain ⟨y1, y2⟩ := y
  show Calls Try.prog 59 #[.agg #[.int .i64 x1, .int .i64 x2], .agg #[.int .i64 y1, .int .i64 y2]] w _
  dsimp only
  go_enter Try.func59, Try.ntmps59
  go_wp2
  obtain ⟨W, hW, gx, gy, hsz, hg⟩ := boxed22 w x1 x2 y1 y2 41
  rw [hW]
  obtain ⟨bx, hbx⟩ : ∃ b, w.heap.size = b := ⟨_, rfl⟩
  rw [hbx] at gx gy hsz ⊢
  have a0 := cell_of_heap (i := 0) gx rfl
  have a1 := cell_of_heap (i := 1) gx rfl
  have b0 := cell_of_heap (i := 0) gy rfl
  have b1 := cell_of_heap (i := 1) gy rfl
  have HG := Lib.hid hg
  clear hW hbx gx gy hg hsz
  go_region_held3 (fun w' => w'.cell? ⟨bx, 0, none⟩ = some (.int .i64 x1) ∧ w'.cell? ⟨bx, 1, none⟩ = some (.int .i64 x2) ∧ w'.cell? ⟨bx + 1, 0, none⟩ = some (.int .i64 y1) ∧ w'.cell? ⟨bx + 1, 1, none⟩ = some (.int .i64 y2))
    (first | go_keep)
    ((first
      | (go_at_call 81; refine (or_two (Lib.compareInt x1 y1) (Lib.compareInt x2 y2) W.heap.size _ (cell_of_heap (i := 0) (heap_alloc_new (W.drewN 1) (.cells #[.int .i64 (Lib.compareInt x1 y1), .int .i64 (Lib.compareInt x2 y2)] 3 (0, 0))) rfl) (cell_of_heap (i := 1) (heap_alloc_new (W.drewN 1) (.cells #[.int .i64 (Lib.compareInt x1 y1), .int .i64 (Lib.compareInt x2 y2)] 3 (0, 0))) rfl)).mono ?_; rintro e w5 ⟨rfl, rfl⟩)
      | (go_at_call 82; refine (cmp_any _ _ _).mono ?_; rintro e w3 ⟨rfl, rfl⟩)))
  go_wp2
  go_ret
  exact ⟨rfl, HG.out.trans (((Grown.refl W).drewN 1).alloc _)⟩
end Go.Proofs.Ytdlmkdldmiiaiaa.D
