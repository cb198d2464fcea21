-- PRINTED BY print.sh 35421559b90ae4d0a3588c463048766b98c2df88dd9212a6774a882060cdf62d: not written by this session
import Derived.Test.YtcffpbldphmpoaaPIntsLongx0
import Derived.Test.YtcffpbldphmpoaaPIntsLongx1
namespace Go.Proofs.Ytcffpbldphmpoaa.PIntsLong
open Go.RowKit Go.Proofs.YtcffpbldphmpoaaW.PrintWords Go.Proofs.YtcffpbldphmpoaaW.PrintLast Go.Proofs.YtcffpbldphmpoaaW.PrintMore
attribute [local go_sem] max2_int min2_int max_two min_two max_three min_three max_four min_four   -- for this text's walks alone
set_option linter.unusedVariables false
set_option linter.unusedSimpArgs false

/-! ### carousellaw01_IntsLong: function 4 -/
def carousellaw01_IntsLong.l0 : Nat → Int → Int → Int → Option (Bool)
  | 0, _, _, _ => none
  | k + 1, x6, x7, x8 => if x8 > 0 then (carousellaw01_IntsLong.l0 k x6 (wrap64 (x7 + 1)) (wrap64 (Int.tdiv x8 128))) else ((ints_Put.f k x6).bind fun t133 => (if (t133.size : Int) = x7 then ((carousellaw01_does.f k).bind fun t134 => (some t134)) else (some false)))
def carousellaw01_IntsLong.f (k : Nat) (a0 : Int) (a1 : Int) : Option (Bool) := if 0 ≤ (Int.tmod (wrap64 (a1)) 64) then (carousellaw01_IntsLong.l0 k (wrap64 (shr .u64 (a0 / 2) (Int.tmod (wrap64 (a1)) 64))) 1 (wrap64 (Int.tdiv (wrap64 (shr .u64 (a0 / 2) (Int.tmod (wrap64 (a1)) 64))) 128))) else (none)
theorem carousellaw01_IntsLong.mono_l : ∀ k, (∀ y0 y1 y2, LeO (carousellaw01_IntsLong.l0 k y0 y1 y2) (carousellaw01_IntsLong.l0 (k + 1) y0 y1 y2))
  | 0 => fun _ _ _ r h => by simp [carousellaw01_IntsLong.l0] at h
  | k + 1 => by
    have ih0 := carousellaw01_IntsLong.mono_l k
    · intro y0 y1 y2
      unfold carousellaw01_IntsLong.l0
      repeat' first
      | (with_reducible exact ih0 _ _ _)
      | (with_reducible exact carousellaw01_does.mono _)
      | (with_reducible exact ints_Put.mono _ _)
      | (with_reducible exact LeO.refl _)
      | (with_reducible exact LeO.none _)
      | (with_reducible refine LeO.ite ?_ ?_)
      | (with_reducible refine LeO.bind ?_ (fun _ => ?_))
      | exact ih0 _ _ _
      | exact carousellaw01_does.mono _
      | exact ints_Put.mono _ _
      | exact LeO.none _
      | refine LeO.ite ?_ ?_
      | refine LeO.bind ?_ (fun _ => ?_)
theorem carousellaw01_IntsLong.mono : ∀ a0 a1 k, LeO (carousellaw01_IntsLong.f k a0 a1) (carousellaw01_IntsLong.f (k + 1) a0 a1) := by
  intro a0 a1 k
  have ih0 := carousellaw01_IntsLong.mono_l k
  unfold carousellaw01_IntsLong.f
  repeat' first
      | (with_reducible exact ih0 _ _ _)
      | (with_reducible exact carousellaw01_does.mono _)
      | (with_reducible exact ints_Put.mono _ _)
      | (with_reducible exact LeO.refl _)
      | (with_reducible exact LeO.none _)
      | (with_reducible refine LeO.ite ?_ ?_)
      | (with_reducible refine LeO.bind ?_ (fun _ => ?_))
      | exact ih0 _ _ _
      | exact carousellaw01_does.mono _
      | exact ints_Put.mono _ _
      | exact LeO.none _
      | refine LeO.ite ?_ ?_
      | refine LeO.bind ?_ (fun _ => ?_)
set_option maxHeartbeats 8000000 in
set_option maxRecDepth 100000 in
theorem carousellaw01_IntsLong.calls (k : Nat) (a0 : Int) (a1 : Int) (r : Bool) (w : World) (h : carousellaw01_IntsLong.f k a0 a1 = some r) :
    Calls Try.prog 4 #[.int .u64 a0, .int .u8 a1] w fun e w' => e = .returned (.bool r) ∧ Below w.heap.size w w' := by
  have HB := Aside0.mk (Below.refl w.heap.size w)
  have H : (if 0 ≤ (Int.tmod (wrap64 (a1)) 64) then (carousellaw01_IntsLong.l0 k (wrap64 (shr .u64 (a0 / 2) (Int.tmod (wrap64 (a1)) 64))) 1 (wrap64 (Int.tdiv (wrap64 (shr .u64 (a0 / 2) (Int.tmod (wrap64 (a1)) 64))) 128))) else (none)) = some r := h
  clear h
  obtain ⟨ji3, hji3⟩ : ∃ j_ : Int, (Int.tmod (wrap64 (a1)) 64) = j_ := ⟨_, rfl⟩
  replace H : (if 0 ≤ (ji3) then (carousellaw01_IntsLong.l0 k (wrap64 (shr .u64 (a0 / 2) (ji3))) 1 (wrap64 (Int.tdiv (wrap64 (shr .u64 (a0 / 2) (ji3))) 128))) else (none)) = some r := by first | (rw [hji3] at H; exact H) | (simp only [hji3] at H ⊢; exact H)
  by_cases c4 : 0 ≤ (ji3)
  · rw [if_pos c4] at H
    have c4b0 := eq_true c4
    have c4b1 : decide (0 ≤ (ji3)) = true := decide_eq_true c4
    clear c4
    obtain ⟨ji5, hji5⟩ : ∃ j_ : Int, (shr .u64 (a0 / 2) (ji3)) = j_ := ⟨_, rfl⟩
    replace H : (carousellaw01_IntsLong.l0 k (wrap64 (ji5)) 1 (wrap64 (Int.tdiv (wrap64 (ji5)) 128))) = some r := by first | (rw [hji5] at H; exact H) | (simp only [hji5] at H ⊢; exact H)
    have hji5_ : ((a0 / 2) / 2 ^ min (ji3).toNat 64) = ji5 := hji5
    have hji5z : (ji3) ≤ 64 → ((a0 / 2) / 2 ^ (ji3).toNat) = ji5 := shr_small hji5
    have H' := Aside0.mk H
    clear H
    go_enter Try.func4, Try.ntmps4
    go_wp2
    go_loopg [7, 8] k (fun kq v7 v8 w' => ∃ (x7_1 : Int) (x8_1 : Int), v7 = .int .i64 x7_1 ∧ v8 = .int .i64 x8_1 ∧ Aside0 (carousellaw01_IntsLong.l0 kq (wrap64 (ji5)) x7_1 x8_1 = some r) ∧ Aside0 (kq ≤ k) ∧ Aside0 (Below w.heap.size w w'))
    case atStart => exact ⟨(1), (wrap64 (Int.tdiv (wrap64 (ji5)) 128)), (by first | rfl | (simp; done) | (simp [*]; done)), (by first | rfl | (simp; done) | (simp only [← hji5] <;> (first | rfl | simp)) | (simp [*]; done)), H', ⟨Nat.le_refl _⟩, ⟨by repeat (first | (with_reducible first | exact HB.out | apply below_alloc | apply pw_below_drewN | apply below_drew1) | exact HB.out)⟩⟩
    case round =>
      clear H'
      try clear p2
      try clear c4
      try clear c4b0
      try clear c4b1
      obtain ⟨x7_1, x8_1, rfl, rfl, HA, HK1, HB⟩ := hrel
      cases gk with
      | zero => exact absurd HA.out (by simp [carousellaw01_IntsLong.l0])
      | succ k1 =>
        have H := HA.out
        clear HA
        simp only [carousellaw01_IntsLong.l0] at H
        by_cases c6 : x8_1 > 0
        · rw [if_pos c6] at H
          have c6b0 : decide (0 < x8_1) = true := decide_eq_true c6
          clear c6
          have H' := Aside0.mk H
          clear H
          go_wp2
          go_roundg k1
          case measure => have := HK1.out; omega
          case rel => exact ⟨(wrap64 (x7_1 + 1)), (wrap64 (Int.tdiv x8_1 128)), (by first | rfl | (simp; done) | (simp [*]; done)), (by first | rfl | (simp; done) | (simp [*]; done)), H', ⟨by have := HK1.out; omega⟩, ⟨by repeat (first | (with_reducible first | exact HB.out | apply below_alloc | apply pw_below_drewN | apply below_drew1) | exact HB.out)⟩⟩
        · rw [if_neg c6] at H
          have c6b0 : decide (0 < x8_1) = false := decide_eq_false c6
          clear c6
          replace H := Option.bind_eq_some_iff.mp H
          obtain ⟨t133, A70, H⟩ := H
          replace H : (if (t133.size : Int) = x7_1 then ((carousellaw01_does.f k1).bind fun t134 => (some t134)) else (some false)) = some r := H
          have A7 := Aside0.mk A70
          clear A70
          by_cases c8 : (t133.size : Int) = x7_1
          · rw [if_pos c8] at H
            have c8b0 : ((t133.size : Int) == x7_1) = true := beq_iff_eq.mpr c8
            have c8b1 : ((t133.size : Int) != x7_1) = false := bne_eq_false_iff_eq.mpr c8
            clear c8
            replace H := Option.bind_eq_some_iff.mp H
            obtain ⟨t134, A90, H⟩ := H
            replace H : (some t134) = some r := H
            have A9 := Aside0.mk A90
            clear A90
            obtain rfl := Option.some.inj H
            go_wp2_with (first | ((with_reducible refine gate_callee (f := 10) rfl ?_); refine goesL_ (some 26) rfl rfl Try.func10 (by kernel_rfl) rfl #[.int .i64 (wrap64 (ji5))] rfl (by (try simp only [List.map_toArray, List.map_cons, List.map_nil]); first | done | (simp only [hji5]; rfl) | rfl | (simp only [List.length_drop, List.length_take]; rfl)) ?_; (with_reducible refine (ints_Put.calls k1 (wrap64 (ji5)) t133 _ A7.out).mono ?_); rintro e w10 ⟨rfl, hb⟩; refine ⟨_, rfl, ?_⟩; have n0_ := Aside0.mk (below_step (by repeat (first | (with_reducible first | exact HB.out | apply below_alloc | apply pw_below_drewN | apply below_drew1) | exact HB.out)) hb); clear HB; have HB := n0_; clear n0_; (try clear hb); (try clear hb2); (try clear hk); (try clear hi)) | (go_at_call 14; (with_reducible refine (carousellaw01_does.calls k1  t134 _ A9.out).mono ?_); rintro e w11 ⟨rfl, hb⟩; have n0_ := Aside0.mk (below_step (by repeat (first | (with_reducible first | exact HB.out | apply below_alloc | apply pw_below_drewN | apply below_drew1) | exact HB.out)) hb); clear HB; have HB := n0_; clear n0_; (try clear hb); (try clear hb2); (try clear hk); (try clear hi)))
            go_ret
            exact ⟨by first | rfl | (simp [errW_none, errW_some] <;> rfl) | (simp only [← hji3, ← hji5]; first | rfl | (simp [errW_none, errW_some] <;> rfl)) | (simp [*, errW_none, errW_some] <;> rfl), by repeat (first | (with_reducible first | exact HB.out | apply below_alloc | apply pw_below_drewN | apply below_drew1) | exact HB.out)⟩
          · rw [if_neg c8] at H
            have c8b0 : ((t133.size : Int) == x7_1) = false := beq_eq_false_iff_ne.mpr c8
            have c8b1 : ((t133.size : Int) != x7_1) = true := bne_iff_ne.mpr c8
            obtain rfl := Option.some.inj H
            go_wp2_with (first | ((with_reducible refine gate_callee (f := 10) rfl ?_); refine goesL_ (some 26) rfl rfl Try.func10 (by kernel_rfl) rfl #[.int .i64 (wrap64 (ji5))] rfl (by (try simp only [List.map_toArray, List.map_cons, List.map_nil]); first | done | (simp only [hji5]; rfl) | rfl | (simp only [List.length_drop, List.length_take]; rfl)) ?_; (with_reducible refine (ints_Put.calls k1 (wrap64 (ji5)) t133 _ A7.out).mono ?_); rintro e w12 ⟨rfl, hb⟩; refine ⟨_, rfl, ?_⟩; have n0_ := Aside0.mk (below_step (by repeat (first | (with_reducible first | exact HB.out | apply below_alloc | apply pw_below_drewN | apply below_drew1) | exact HB.out)) hb); clear HB; have HB := n0_; clear n0_; (try clear hb); (try clear hb2); (try clear hk); (try clear hi)))
            go_ret
            exact ⟨by first | rfl | (simp [errW_none, errW_some] <;> rfl) | (simp only [← hji3, ← hji5]; first | rfl | (simp [errW_none, errW_some] <;> rfl)) | (simp [*, errW_none, errW_some] <;> rfl), by repeat (first | (with_reducible first | exact HB.out | apply below_alloc | apply pw_below_drewN | apply below_drew1) | exact HB.out)⟩
  · rw [if_neg c4] at H
    exact absurd H (by simp)

/-- THE ONE PURE STATEMENT of carousellaw01_IntsLong: yours. -/
def carousellaw01_IntsLong.Pure : Prop := ∀ (a0 : Int) (a1 : Int), (Lit.int .u64 a0).wf = true → (Lit.int .u8 a1).wf = true → ∃ k, carousellaw01_IntsLong.f k a0 a1 = some true
theorem carousellaw01_IntsLong.walk (P : carousellaw01_IntsLong.Pure) (a0 : Int) (a1 : Int) (w : World) (w0 : (Lit.int .u64 a0).wf = true) (w1 : (Lit.int .u8 a1).wf = true) :
    Calls Try.prog 4 #[.int .u64 a0, .int .u8 a1] w fun e w' => e = .returned (.bool true) ∧ Below w.heap.size w w' := by
  obtain ⟨k, h⟩ := P a0 a1 w0 w1
  refine (carousellaw01_IntsLong.calls k a0 a1 true w h).mono ?_
  rintro e w' ⟨rfl, hd⟩
  exact ⟨rfl, hd⟩

end Go.Proofs.Ytcffpbldphmpoaa.PIntsLong
