/- What the queue's functions do, each once: who comes first, who stands where. Conditions: those that each theorem names. -/
import Derived.WalkKit
import Derived.OwnWalk
import Derived.Laws.LoneSync
import Derived.Laws.OwnMore
import Derived.Deep.QuietTactic
import Derived.BigQuiet
import Derived.WalkSpells
import Derived.WalkLawsBesides
import Derived.Deep.RegionHeld3
import Derived.Deep.RegionLaw
import Derived.Deep.DrawnRows
import Derived.StillTailTactics
import Derived.Lib.Hide
import Derived.Maps.AppendAt
import Derived.Test.YtcallnhkojgnmaaShelf
import Derived.Test.YtcallnhkojgnmaaMa
namespace Go.Proofs.Ytcallnhkojgnmaa.Q
open Go.RowKit Go.Sort Go.Shelf
open Go.Proofs.Ytcallnhkojgnmaa.Ma
set_option linter.unusedVariables false
set_option linter.unusedSimpArgs false
abbrev It := Int × Int × Int × Int
abbrev enc4 (x : It) : List Value := [.int .i64 x.1, .int .i64 x.2.1, .int .i64 x.2.2.1, .int .i64 x.2.2.2]
theorem enc4_len (x : It) : (enc4 x).length = 4 := rfl
theorem enc4_one (x : It) : ∀ v ∈ enc4 x, v.oneCell' = true := fun v hv => by
  simp [enc4] at hv
  rcases hv with rfl | rfl | rfl | rfl <;> rfl
def rankZ (x : It) : Int := wrap64 (x.2.1 + wrap64 (x.2.2.2.tdiv 4))
def orZ (x y : Int) : Int := if x = 0 then y else x
def cf (x y : It) : Int := orZ (Lib.compareInt (rankZ y) (rankZ x)) (Lib.compareInt x.1 y.1)
theorem rank_any (x : It) (w : World) : Calls Try.prog 21 #[.agg (enc4 x).toArray] w fun e w' => e = .returned (.int .i64 (rankZ x)) ∧ w' = w.alloc (.cells (enc4 x).toArray 31) := by
  obtain ⟨x1, x2, x3, x4⟩ := x
  unfold rankZ
  show Calls Try.prog 21 #[.agg #[.int .i64 x1, .int .i64 x2, .int .i64 x3, .int .i64 x4]] w _
  go_enter Try.func21, Try.ntmps21
  go_wp2
  go_ret
  exact ⟨rfl, rfl⟩
theorem rank_ref (x : It) (w : World) : Calls Try.prog 22 #[.agg (enc4 x).toArray] w fun e w' => e = .returned (.int .i64 (rankZ x)) ∧ w' = w.alloc (.cells (enc4 x).toArray 37) := by
  obtain ⟨x1, x2, x3, x4⟩ := x
  unfold rankZ
  show Calls Try.prog 22 #[.agg #[.int .i64 x1, .int .i64 x2, .int .i64 x3, .int .i64 x4]] w _
  go_enter Try.func22, Try.ntmps22
  go_wp2
  go_ret
  exact ⟨rfl, rfl⟩
theorem cmp_any (x y : Int) (w : World) : Calls Try.prog 37 #[.int .i64 x, .int .i64 y] w fun e w' => e = .returned (.int .i64 (Lib.compareInt x y)) ∧ w = w' :=
  (AnyG.cmp_Compare_int Try.cmpInt x y w).mono fun _ _ ⟨he, hw⟩ => ⟨he, hw.symm⟩
theorem or_two (x y : Int) (b : Nat) (w : World) (h0 : w.cell? ⟨b, 0, none⟩ = some (.int .i64 x)) (h1 : w.cell? ⟨b, 1, none⟩ = some (.int .i64 y)) : Calls Try.prog 36 #[.slice (some ⟨b, 0, none⟩) 2 2] w fun e w' => e = .returned (.int .i64 (orZ x y)) ∧ w = w' := by
  unfold orZ
  by_cases hx : x = 0
  · subst hx
    rw [if_pos rfl]
    go_enter Try.func36, Try.ntmps36
    go_wp2
    go_loop [5, 8] (fun _ i => i = .int .i64 0 ∨ i = .int .i64 1 ∨ (i = .int .i64 2 ∧ y = 0)) (fun _ i => 2 - (intOf i).toNat)
    case atStart => exact .inl rfl
    case round =>
      rcases hrel with rfl | rfl | ⟨rfl, rfl⟩
      · go_wp2
        go_round
        case rel => exact .inr (.inl rfl)
        case measure => simp [intOf]
      · by_cases hy : y = 0
        · have e2 : (y != 0) = false := by simpa using hy
          have HY := Lib.hid hy
          clear hy
          go_wp2
          go_round
          case rel => exact .inr (.inr ⟨rfl, HY.out⟩)
          case measure => simp [intOf]
        · have e2 : (y != 0) = true := by simpa using hy
          clear hy
          go_wp2
          go_ret
          exact ⟨rfl, rfl⟩
      · go_wp2
        go_ret
        exact ⟨rfl, rfl⟩
  · rw [if_neg hx]
    have e1 : (x != 0) = true := by simpa using hx
    clear hx
    go_enter Try.func36, Try.ntmps36
    go_wp2
    go_loop [5, 8] (fun _ i => i = .int .i64 0) (fun _ i => 2 - (intOf i).toNat)
    case atStart => rfl
    case round =>
      subst hrel
      go_wp2
      go_ret
      exact ⟨rfl, rfl⟩
/-- w' is w with so many draws and blocks behind. -/
def Grown (w w' : World) : Prop := ∃ q os, w' = grow (w.drewN q) os
theorem grow_drew (w : World) (q : Nat) (os : Array Obj) : (grow w os).drewN q = grow (w.drewN q) os := rfl
theorem Grown.refl (w : World) : Grown w w := ⟨0, #[], by simp; rfl⟩
theorem Grown.trans {a b c : World} (h : Grown a b) (k : Grown b c) : Grown a c := by
  obtain ⟨q, os, rfl⟩ := h
  obtain ⟨r, ps, rfl⟩ := k
  exact ⟨q + r, os ++ ps, by rw [grow_drew, grow_grow, World.drewN_drewN]⟩
theorem Grown.alloc {a b : World} (h : Grown a b) (o : Obj) : Grown a (b.alloc o) := h.trans ⟨0, #[o], by rw [alloc_eq_grow]; rfl⟩
theorem Grown.drewN {a b : World} (h : Grown a b) (m : Nat) : Grown a (b.drewN m) := h.trans ⟨m, #[], by simp⟩
theorem Grown.below {a b : World} (h : Grown a b) : Below a.heap.size a b := by
  obtain ⟨q, os, rfl⟩ := h
  exact ⟨rfl, rfl, rfl, by simp [World.drewN], fun k hk => heap_grow_old (a.drewN q) os hk⟩
theorem pres8 {V V' : World} {b : Nat} {v0 v1 v2 v3 u0 u1 u2 u3 : Value} (hg : Grown V V') (hl : b + 1 < V.heap.size) (h : V.cell? ⟨b, 0, none⟩ = some v0 ∧ V.cell? ⟨b, 1, none⟩ = some v1 ∧ V.cell? ⟨b, 2, none⟩ = some v2 ∧ V.cell? ⟨b, 3, none⟩ = some v3 ∧ V.cell? ⟨b + 1, 0, none⟩ = some u0 ∧ V.cell? ⟨b + 1, 1, none⟩ = some u1 ∧ V.cell? ⟨b + 1, 2, none⟩ = some u2 ∧ V.cell? ⟨b + 1, 3, none⟩ = some u3) :
    V'.cell? ⟨b, 0, none⟩ = some v0 ∧ V'.cell? ⟨b, 1, none⟩ = some v1 ∧ V'.cell? ⟨b, 2, none⟩ = some v2 ∧ V'.cell? ⟨b, 3, none⟩ = some v3 ∧ V'.cell? ⟨b + 1, 0, none⟩ = some u0 ∧ V'.cell? ⟨b + 1, 1, none⟩ = some u1 ∧ V'.cell? ⟨b + 1, 2, none⟩ = some u2 ∧ V'.cell? ⟨b + 1, 3, none⟩ = some u3 := by
  obtain ⟨h0, h1, h2, h3, h4, h5, h6, h7⟩ := h
  have hb := hg.below
  have key : ∀ {c i : Nat} {v : Value}, c < V.heap.size → V.cell? ⟨c, i, none⟩ = some v → V'.cell? ⟨c, i, none⟩ = some v := fun hl h => (hb.cell (p := ⟨_, _, none⟩) hl).trans h
  exact ⟨key (by omega) h0, key (by omega) h1, key (by omega) h2, key (by omega) h3, key hl h4, key hl h5, key hl h6, key hl h7⟩
set_option maxHeartbeats 1000000 in
theorem compare_any (x y : It) (w : World) : Calls Try.prog 29 #[.agg (enc4 x).toArray, .agg (enc4 y).toArray] w fun e w' => e = .returned (.int .i64 (cf x y)) ∧ Grown w w' := by
  unfold cf
  have ra := rank_any x
  have rb := rank_any y
  obtain ⟨x1, x2, x3, x4⟩ := x
  obtain ⟨y1, y2, y3, y4⟩ := y
  show Calls Try.prog 29 #[.agg #[.int .i64 x1, .int .i64 x2, .int .i64 x3, .int .i64 x4], .agg #[.int .i64 y1, .int .i64 y2, .int .i64 y3, .int .i64 y4]] w _
  change ∀ w, Calls Try.prog 21 #[.agg #[.int .i64 x1, .int .i64 x2, .int .i64 x3, .int .i64 x4]] w _ at ra
  change ∀ w, Calls Try.prog 21 #[.agg #[.int .i64 y1, .int .i64 y2, .int .i64 y3, .int .i64 y4]] w _ at rb
  generalize rankZ (x1, x2, x3, x4) = p at ra ⊢
  generalize rankZ (y1, y2, y3, y4) = q at rb ⊢
  have RA := Lib.hid ra
  have RB := Lib.hid rb
  have hw := Lib.hid (Grown.refl w)
  clear ra rb
  go_enter Try.func29, Try.ntmps29
  go_wp2
  obtain ⟨W, hW, gx, gy, hsz, hg⟩ : ∃ W : World, (w.alloc (.cells #[.int .i64 x1, .int .i64 x2, .int .i64 x3, .int .i64 x4] 31)).alloc (.cells #[.int .i64 y1, .int .i64 y2, .int .i64 y3, .int .i64 y4] 31) = W ∧ W.heap[w.heap.size]? = some (.cells #[.int .i64 x1, .int .i64 x2, .int .i64 x3, .int .i64 x4] 31 (0, 0)) ∧ W.heap[w.heap.size + 1]? = some (.cells #[.int .i64 y1, .int .i64 y2, .int .i64 y3, .int .i64 y4] 31 (0, 0)) ∧ W.heap.size = w.heap.size + 2 ∧ Grown w W := by
    refine ⟨_, rfl, ?_, ?_, by simp, ((Grown.refl w).alloc _).alloc _⟩
    · rw [Below.heap_alloc _ _ _ (by simp)]
      exact heap_alloc_new w _
    · have := heap_alloc_new (w.alloc (.cells #[.int .i64 x1, .int .i64 x2, .int .i64 x3, .int .i64 x4] 31)) (.cells #[.int .i64 y1, .int .i64 y2, .int .i64 y3, .int .i64 y4] 31 (0, 0))
      rwa [show (w.alloc (.cells #[.int .i64 x1, .int .i64 x2, .int .i64 x3, .int .i64 x4] 31)).heap.size = w.heap.size + 1 by simp] at this
  rw [hW]
  obtain ⟨bx, hbx⟩ : ∃ b, w.heap.size = b := ⟨_, rfl⟩
  rw [hbx] at gx gy hsz ⊢
  have a0 := cell_of_heap (i := 0) gx rfl
  have a1 := cell_of_heap (i := 1) gx rfl
  have a2 := cell_of_heap (i := 2) gx rfl
  have a3 := cell_of_heap (i := 3) gx rfl
  have b0 := cell_of_heap (i := 0) gy rfl
  have b1 := cell_of_heap (i := 1) gy rfl
  have b2 := cell_of_heap (i := 2) gy rfl
  have b3 := cell_of_heap (i := 3) gy rfl
  have HG := Lib.hid hg
  have HSZ := Lib.hid hsz
  have lx : bx < W.heap.size := by omega
  have ly : bx + 1 < W.heap.size := by omega
  clear hW hbx gx gy hg hsz
  go_region_held3 (fun w' => w'.cell? ⟨bx, 0, none⟩ = some (.int .i64 x1) ∧ w'.cell? ⟨bx, 1, none⟩ = some (.int .i64 x2) ∧ w'.cell? ⟨bx, 2, none⟩ = some (.int .i64 x3) ∧ w'.cell? ⟨bx, 3, none⟩ = some (.int .i64 x4) ∧ w'.cell? ⟨bx + 1, 0, none⟩ = some (.int .i64 y1) ∧ w'.cell? ⟨bx + 1, 1, none⟩ = some (.int .i64 y2) ∧ w'.cell? ⟨bx + 1, 2, none⟩ = some (.int .i64 y3) ∧ w'.cell? ⟨bx + 1, 3, none⟩ = some (.int .i64 y4))
    (first | go_keep | exact pres8 (((g2.alloc _).drewN 1)) ly ⟨a0, a1, a2, a3, b0, b1, b2, b3⟩ | exact pres8 (g2.alloc _) ly ⟨a0, a1, a2, a3, b0, b1, b2, b3⟩ | exact pres8 g2 ly ⟨a0, a1, a2, a3, b0, b1, b2, b3⟩ | exact pres8 g1 ly ⟨a0, a1, a2, a3, b0, b1, b2, b3⟩)
    ((first
      | (go_at_call 36; refine (or_two (Lib.compareInt q p) (Lib.compareInt x1 y1) w2.heap.size _ (cell_of_heap (i := 0) (heap_alloc_new w2 (.cells #[.int .i64 (Lib.compareInt q p), .int .i64 (Lib.compareInt x1 y1)] 3 (0, 0))) rfl) (cell_of_heap (i := 1) (heap_alloc_new w2 (.cells #[.int .i64 (Lib.compareInt q p), .int .i64 (Lib.compareInt x1 y1)] 3 (0, 0))) rfl)).mono ?_; rintro e w5 ⟨rfl, rfl⟩)
      | (go_at_call 37; refine (cmp_any _ _ _).mono ?_; rintro e w3 ⟨rfl, rfl⟩)
      | (go_at_call 21; refine (RA.out w1).mono ?_; rintro e w2 ⟨rfl, hw2⟩; have g2 : Grown W w2 := by { rw [hw2]; exact g1.alloc _ }; clear hw2)
      | (go_at_call 21; refine (RB.out _).mono ?_; rintro e w1 ⟨rfl, hw1⟩; have g1 : Grown W w1 := by { rw [hw1]; exact ((Grown.refl W).drewN 1).alloc _ }; clear hw1)))
  go_wp2
  go_ret
  refine ⟨rfl, HG.out.trans ?_⟩
  first | exact g2.alloc _ | exact (g2.alloc _).drewN 1
end Go.Proofs.Ytcallnhkojgnmaa.Q
