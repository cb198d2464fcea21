/- QueueRanks and QueueNone, walked. Conditions: the arguments lie as they may. -/
import Derived.Laws.StructEq
import Derived.Test.YtcallnhkojgnmaaStp
namespace Go.Proofs.Ytcallnhkojgnmaa.Q
open Go.RowKit Go.Sort Go.Shelf
open Go.Proofs.Ytcallnhkojgnmaa.Ma
set_option linter.unusedVariables false
set_option linter.unusedSimpArgs false
theorem IsNone.below {w w' : World} {p : Option Addr} (h : IsNone w p) (hb : Below w.heap.size w w') : IsNone w' p := by
  rcases h with rfl | ⟨b, rfl, hl, hc⟩
  · exact .inl rfl
  · exact .inr ⟨b, rfl, Nat.lt_of_lt_of_le hl hb.size, (hb.cell (p := ⟨b, 0, none⟩) hl).trans hc⟩
theorem push_none (p : Option Addr) (x1 x2 x3 x4 : Int) (w : World) (h : IsNone w p) : Calls Try.prog 11 #[.pointer p, .agg #[.int .i64 x1, .int .i64 x2, .int .i64 x3, .int .i64 x4]] w fun e w' => e = .returned (.int .i64 1) ∧ Below w.heap.size w w' := by
  have hb : Below w.heap.size w (w.alloc (.cells #[.int .i64 x1, .int .i64 x2, .int .i64 x3, .int .i64 x4] 31)) := (Below.refl _ _).alloc (Nat.le_refl _) _
  have HN := Lib.hid (h.below hb)
  have HB := Lib.hid hb
  clear h hb
  go_enter Try.func11, Try.ntmps11
  go_wp2_with (go_at_call 23; refine (none_true p _ HN.out).mono ?_; rintro e w' ⟨rfl, rfl⟩)
  go_ret
  exact ⟨rfl, HB.out⟩
theorem rem_none (p : Option Addr) (id : Int) (w : World) (h : IsNone w p) : Calls Try.prog 13 #[.pointer p, .int .i64 id] w fun e w' => e = .returned (.int .i64 1) ∧ Below w.heap.size w w' := by
  have HN := Lib.hid h
  clear h
  go_enter Try.func13, Try.ntmps13
  go_wp2_with (go_at_call 23; refine (none_true p _ HN.out).mono ?_; rintro e w' ⟨rfl, rfl⟩)
  go_ret
  exact ⟨rfl, Below.refl _ _⟩
theorem age_none (p : Option Addr) (w : World) (h : IsNone w p) : Calls Try.prog 15 #[.pointer p] w fun e w' => e = .returned (.int .i64 1) ∧ Below w.heap.size w w' := by
  have HN := Lib.hid h
  clear h
  go_enter Try.func15, Try.ntmps15
  go_wp2_with (go_at_call 23; refine (none_true p _ HN.out).mono ?_; rintro e w' ⟨rfl, rfl⟩)
  go_ret
  exact ⟨rfl, Below.refl _ _⟩
theorem items_none (p : Option Addr) (w : World) (h : IsNone w p) : Calls Try.prog 17 #[.pointer p] w fun e w' => e = .returned (.slice none 0 0) ∧ Below w.heap.size w w' := by
  have HN := Lib.hid h
  clear h
  go_enter Try.func17, Try.ntmps17
  go_wp2_with (go_at_call 23; refine (none_true p _ HN.out).mono ?_; rintro e w' ⟨rfl, rfl⟩)
  go_ret
  exact ⟨rfl, Below.refl _ _⟩
theorem rank_refv (x1 x2 x3 x4 r : Int) (w : World) (hv : rankZ (x1, x2, x3, x4) = r) : Calls Try.prog 22 #[.agg #[.int .i64 x1, .int .i64 x2, .int .i64 x3, .int .i64 x4]] w fun e w' => e = .returned (.int .i64 r) ∧ Below w.heap.size w w' := by
  subst hv
  exact (rank_ref (x1, x2, x3, x4) w).mono fun _ _ ⟨he, hw⟩ => ⟨he, by rw [hw]; exact (Below.refl _ _).alloc (Nat.le_refl _) _⟩
theorem four_keep {V V' : World} {b : Nat} {v0 v1 v2 v3 : Value} (hb : Below V.heap.size V V') (hl : b < V.heap.size) (h : V.cell? ⟨b, 0, none⟩ = some v0 ∧ V.cell? ⟨b, 1, none⟩ = some v1 ∧ V.cell? ⟨b, 2, none⟩ = some v2 ∧ V.cell? ⟨b, 3, none⟩ = some v3) :
    V'.cell? ⟨b, 0, none⟩ = some v0 ∧ V'.cell? ⟨b, 1, none⟩ = some v1 ∧ V'.cell? ⟨b, 2, none⟩ = some v2 ∧ V'.cell? ⟨b, 3, none⟩ = some v3 :=
  ⟨(hb.cell (p := ⟨b, 0, none⟩) hl).trans h.1, (hb.cell (p := ⟨b, 1, none⟩) hl).trans h.2.1, (hb.cell (p := ⟨b, 2, none⟩) hl).trans h.2.2.1, (hb.cell (p := ⟨b, 3, none⟩) hl).trans h.2.2.2⟩
set_option maxHeartbeats 1000000 in
theorem ranks_at (x1 x2 x3 x4 : Int) (w : World) : Calls Try.prog 4 #[.agg #[.int .i64 x1, .int .i64 x2, .int .i64 x3, .int .i64 x4]] w fun e w' => e = .returned (.bool true) ∧ Below w.heap.size w w' := by
  have hor : (x2 < 0 ∨ (0 ≤ x2 ∧ 7 < x2) ∨ (0 ≤ x2 ∧ x2 ≤ 7 ∧ x4 < 0) ∨ (0 ≤ x2 ∧ x2 ≤ 7 ∧ 0 ≤ x4 ∧ 1073741824 < x4)) ∨ (0 ≤ x2 ∧ x2 ≤ 7 ∧ 0 ≤ x4 ∧ x4 ≤ 1073741824) := by omega
  obtain ⟨W, hW, gW, hbl, hsz⟩ := boxed4 w x1 x2 x3 x4 31
  have HB := Lib.hid hbl
  have q0 := cell_of_heap (i := 0) gW rfl
  have q1 := cell_of_heap (i := 1) gW rfl
  have q2 := cell_of_heap (i := 2) gW rfl
  have q3 := cell_of_heap (i := 3) gW rfl
  have lw : w.heap.size < W.heap.size := by omega
  obtain ⟨r, hr⟩ : ∃ r, rankZ (x1, x2, x3, x4) = r := ⟨_, rfl⟩
  have HR := Lib.hid hr
  clear hr hbl gW
  rcases hor with (h2 | ⟨h2, h3⟩ | ⟨h2, h3, h4⟩ | ⟨h2, h3, h4, h5⟩) | ⟨h2, h3, h4, h5⟩
  · go_enter Try.func4, Try.ntmps4
    go_wp2_with (go_at_call 9; refine (waits_calls _).mono ?_; rintro e w2 ⟨rfl, hb2⟩)
    go_ret
    exact ⟨rfl, HB.out.trans (hb2.mono (by omega))⟩
  · go_enter Try.func4, Try.ntmps4
    go_wp2_with (go_at_call 9; refine (waits_calls _).mono ?_; rintro e w2 ⟨rfl, hb2⟩)
    go_ret
    exact ⟨rfl, HB.out.trans (hb2.mono (by omega))⟩
  · go_enter Try.func4, Try.ntmps4
    go_wp2_with (go_at_call 9; refine (waits_calls _).mono ?_; rintro e w2 ⟨rfl, hb2⟩)
    go_ret
    exact ⟨rfl, HB.out.trans (hb2.mono (by omega))⟩
  · go_enter Try.func4, Try.ntmps4
    go_wp2_with (go_at_call 9; refine (waits_calls _).mono ?_; rintro e w2 ⟨rfl, hb2⟩)
    go_ret
    exact ⟨rfl, HB.out.trans (hb2.mono (by omega))⟩
  · go_enter Try.func4, Try.ntmps4
    go_wp2
    have s0 := lw
    obtain ⟨bx, hbx⟩ : ∃ k, w.heap.size = k := ⟨_, rfl⟩
    have HBX := Lib.hid hbx
    rw [hbx] at q0 q1 q2 q3 s0 ⊢
    clear hbx
    go_region_held3 (fun w' => w'.cell? ⟨bx, 0, none⟩ = some (.int .i64 x1) ∧ w'.cell? ⟨bx, 1, none⟩ = some (.int .i64 x2) ∧ w'.cell? ⟨bx, 2, none⟩ = some (.int .i64 x3) ∧ w'.cell? ⟨bx, 3, none⟩ = some (.int .i64 x4))
      (first | go_keep | exact k7 | exact k6 | exact k5)
      ((first
        | (go_at_call 9; refine (waits_calls _).mono ?_; rintro e w7 ⟨rfl, hb7⟩; have l7 : bx < w7.heap.size := Nat.lt_of_lt_of_le l6 hb7.size; have B7 := B6.trans (hb7.mono B6.size); have k7 := four_keep hb7 l6 k6)
        | (go_at_call 22; refine (rank_refv x1 x2 x3 x4 r _ HR.out).mono ?_; rintro e w6 ⟨rfl, hb6⟩; have l6 : bx < w6.heap.size := Nat.lt_of_lt_of_le l5 hb6.size; have B6 := B5.trans (hb6.mono B5.size); have k6 := four_keep hb6 l5 k5)
        | (go_at_call 21; refine (rank_val x1 x2 x3 x4 r _ HR.out).mono ?_; rintro e w5 ⟨rfl, hb5⟩; have l5 : bx < w5.heap.size := Nat.lt_of_lt_of_le s0 hb5.size; have B5 : Below W.heap.size W w5 := ((Below.refl W.heap.size W).drew).trans hb5; have k5 := four_keep (V := W) B5 s0 ⟨q0, q1, q2, q3⟩)))
    go_wp2
    go_ret
    rw [← HBX.out]
    exact ⟨rfl, HB.out.trans (B7.mono (by omega))⟩
end Go.Proofs.Ytcallnhkojgnmaa.Q
