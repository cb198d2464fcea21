-- The walk of a law and of what it calls, by a program, over contracts of my own beside it.
import Derived.Test.YtpjlnalhaeopeaaQGapsEncodex3
namespace Go.Proofs.Ytpjlnalhaeopeaa.QGapsEncode
open Go.RowKit Go.Proofs.YtpjlnalhaeopeaaW.PrintWords Go.Proofs.YtpjlnalhaeopeaaW.PrintLast Go.Proofs.YtpjlnalhaeopeaaW.PrintMore
attribute [local go_sem] max2_int min2_int max_two min_two max_three min_three max_four min_four   -- for this text's walks alone
set_option linter.unusedVariables false
set_option linter.unusedSimpArgs false

/-! ### carousellaw02_GapsEncode: function 3 -/
def carousellaw02_GapsEncode.f (k : Nat) (l0 : List Int) : Option (Bool) := if (l0.length : Int) > 500 then (some true) else ((carousellaw02_Twin.f k l0).bind fun t173 => ((gaps_Encode.f k t173).bind fun bt176 => ((carouselref02_Encode.f k l0).bind fun bt178 => (if bt176.1.toList = bt178.1.toList then (if bt176.2 = bt178.2 then ((gaps_Check.f k t173).bind fun t180 => ((carouselref02_Check.f k l0).bind fun t181 => (if t180 = t181 then ((carousellaw02_Left.f k t173 l0).bind fun t182 => (if t182 = true then ((carousellaw02_does.f k).bind fun t183 => (some t183)) else (some false))) else (some false)))) else (some false)) else (some false)))))
theorem carousellaw02_GapsEncode.mono : ∀ a0 k, LeO (carousellaw02_GapsEncode.f k a0) (carousellaw02_GapsEncode.f (k + 1) a0) := by
  intro a0 k
  unfold carousellaw02_GapsEncode.f
  repeat' first
      | (with_reducible exact carousellaw02_Left.mono _ _ _)
      | (with_reducible exact carousellaw02_Twin.mono _ _)
      | (with_reducible exact carousellaw02_does.mono _)
      | (with_reducible exact carouselref02_Check.mono _ _)
      | (with_reducible exact carouselref02_Encode.mono _ _)
      | (with_reducible exact gaps_Check.mono _ _)
      | (with_reducible exact gaps_Encode.mono _ _)
      | (with_reducible exact LeO.refl _)
      | (with_reducible exact LeO.none _)
      | (with_reducible refine LeO.ite ?_ ?_)
      | (with_reducible refine LeO.bind ?_ (fun _ => ?_))
      | exact carousellaw02_Left.mono _ _ _
      | exact carousellaw02_Twin.mono _ _
      | exact carousellaw02_does.mono _
      | exact carouselref02_Check.mono _ _
      | exact carouselref02_Encode.mono _ _
      | exact gaps_Check.mono _ _
      | exact gaps_Encode.mono _ _
      | exact LeO.none _
      | refine LeO.ite ?_ ?_
      | refine LeO.bind ?_ (fun _ => ?_)
set_option maxHeartbeats 8000000 in
set_option maxRecDepth 100000 in
theorem carousellaw02_GapsEncode.calls (k : Nat) (A0 : Option Addr) (c0 : Nat) (l0 : List Int) (w : World) (hA : A0 = none → c0 = 0) (hr0 : Kd.C (Kd.int .i64) w A0 l0.length l0) (hc0 : l0.length ≤ c0) (h : carousellaw02_GapsEncode.f k l0 = some true) :
    Calls Try.prog 3 #[.slice A0 l0.length c0] w fun e w' => e = .returned (.bool true) ∧ Below w.heap.size w w' := by
  have HR0 := Aside0.mk hr0
  have HC0 := Aside0.mk hc0
  clear hr0 hc0
  have HB := Aside0.mk (Below.refl w.heap.size w)
  have H : (if (l0.length : Int) > 500 then (some true) else ((carousellaw02_Twin.f k l0).bind fun t173 => ((gaps_Encode.f k t173).bind fun bt176 => ((carouselref02_Encode.f k l0).bind fun bt178 => (if bt176.1.toList = bt178.1.toList then (if bt176.2 = bt178.2 then ((gaps_Check.f k t173).bind fun t180 => ((carouselref02_Check.f k l0).bind fun t181 => (if t180 = t181 then ((carousellaw02_Left.f k t173 l0).bind fun t182 => (if t182 = true then ((carousellaw02_does.f k).bind fun t183 => (some t183)) else (some false))) else (some false)))) else (some false)) else (some false)))))) = some true := h
  clear h
  by_cases c2 : (l0.length : Int) > 500
  · rw [if_pos c2] at H
    have c2b0 : decide (500 < (l0.length : Int)) = true := decide_eq_true c2
    have c2b1 : decide (500 < l0.length) = true := decide_eq_true (by omega)
    clear c2
    clear H
    go_enter Try.func3, Try.ntmps3
    go_wp2
    go_ret
    exact ⟨by first | rfl | (simp [errW_none, errW_some] <;> rfl) | (simp [*, errW_none, errW_some] <;> rfl), by repeat (first | (with_reducible first | exact HB.out | apply below_alloc | apply pw_below_drewN | apply below_drew1) | exact HB.out)⟩
  · rw [if_neg c2] at H
    have c2b0 : decide (500 < (l0.length : Int)) = false := decide_eq_false c2
    have c2b1 : decide (500 < l0.length) = false := decide_eq_false (by omega)
    clear c2
    replace H := Option.bind_eq_some_iff.mp H
    obtain ⟨t173, A30, H⟩ := H
    replace H : ((gaps_Encode.f k t173).bind fun bt176 => ((carouselref02_Encode.f k l0).bind fun bt178 => (if bt176.1.toList = bt178.1.toList then (if bt176.2 = bt178.2 then ((gaps_Check.f k t173).bind fun t180 => ((carouselref02_Check.f k l0).bind fun t181 => (if t180 = t181 then ((carousellaw02_Left.f k t173 l0).bind fun t182 => (if t182 = true then ((carousellaw02_does.f k).bind fun t183 => (some t183)) else (some false))) else (some false)))) else (some false)) else (some false)))) = some true := H
    have A3 := Aside0.mk A30
    clear A30
    replace H := Option.bind_eq_some_iff.mp H
    obtain ⟨⟨t176, t177⟩, A40, H⟩ := H
    replace H : ((carouselref02_Encode.f k l0).bind fun bt178 => (if t176.toList = bt178.1.toList then (if t177 = bt178.2 then ((gaps_Check.f k t173).bind fun t180 => ((carouselref02_Check.f k l0).bind fun t181 => (if t180 = t181 then ((carousellaw02_Left.f k t173 l0).bind fun t182 => (if t182 = true then ((carousellaw02_does.f k).bind fun t183 => (some t183)) else (some false))) else (some false)))) else (some false)) else (some false))) = some true := H
    have A4 := Aside0.mk A40
    clear A40
    replace H := Option.bind_eq_some_iff.mp H
    obtain ⟨⟨t178, t179⟩, A50, H⟩ := H
    replace H : (if t176.toList = t178.toList then (if t177 = t179 then ((gaps_Check.f k t173).bind fun t180 => ((carouselref02_Check.f k l0).bind fun t181 => (if t180 = t181 then ((carousellaw02_Left.f k t173 l0).bind fun t182 => (if t182 = true then ((carousellaw02_does.f k).bind fun t183 => (some t183)) else (some false))) else (some false)))) else (some false)) else (some false)) = some true := H
    have A5 := Aside0.mk A50
    clear A50
    by_cases c6 : t176.toList = t178.toList
    · rw [if_pos c6] at H
      have c6b0 : (t176.toList == t178.toList) = true := beq_iff_eq.mpr c6
      have c6b1 : (t176.toList != t178.toList) = false := bne_eq_false_iff_eq.mpr c6
      clear c6
      by_cases c7 : t177 = t179
      · rw [if_pos c7] at H
        have c7b0 : (t177 == t179) = true := beq_iff_eq.mpr c7
        have c7b1 : (t177 != t179) = false := bne_eq_false_iff_eq.mpr c7
        clear c7
        replace H := Option.bind_eq_some_iff.mp H
        obtain ⟨t180, A80, H⟩ := H
        replace H : ((carouselref02_Check.f k l0).bind fun t181 => (if t180 = t181 then ((carousellaw02_Left.f k t173 l0).bind fun t182 => (if t182 = true then ((carousellaw02_does.f k).bind fun t183 => (some t183)) else (some false))) else (some false))) = some true := H
        have A8 := Aside0.mk A80
        clear A80
        replace H := Option.bind_eq_some_iff.mp H
        obtain ⟨t181, A90, H⟩ := H
        replace H : (if t180 = t181 then ((carousellaw02_Left.f k t173 l0).bind fun t182 => (if t182 = true then ((carousellaw02_does.f k).bind fun t183 => (some t183)) else (some false))) else (some false)) = some true := H
        have A9 := Aside0.mk A90
        clear A90
        by_cases c10 : t180 = t181
        · rw [if_pos c10] at H
          have c10b0 : (t180 == t181) = true := beq_iff_eq.mpr c10
          have c10b1 : (t180 != t181) = false := bne_eq_false_iff_eq.mpr c10
          clear c10
          replace H := Option.bind_eq_some_iff.mp H
          obtain ⟨t182, A110, H⟩ := H
          replace H : (if t182 = true then ((carousellaw02_does.f k).bind fun t183 => (some t183)) else (some false)) = some true := H
          have A11 := Aside0.mk A110
          clear A110
          by_cases c12 : t182 = true
          · subst c12
            have H1 : ((carousellaw02_does.f k).bind fun t183 => (some t183)) = some true := by rw [if_pos rfl] at H; exact H
            clear H
            have H := H1
            clear H1
            replace H := Option.bind_eq_some_iff.mp H
            obtain ⟨t183, A130, H⟩ := H
            replace H : (some t183) = some true := H
            have A13 := Aside0.mk A130
            clear A130
            obtain rfl := Option.some.inj H
            go_enter Try.func3, Try.ntmps3
            go_wp2_with (first | ((with_reducible refine gate_callee (f := 9) rfl ?_); refine goesL_ (some 12) rfl rfl Try.func9 (by kernel_rfl) rfl #[.slice A0 l0.length c0] rfl (by (try simp only [List.map_toArray, List.map_cons, List.map_nil]); first | done | rfl | (simp only [List.length_drop, List.length_take]; rfl)) ?_; (with_reducible refine (carousellaw02_Twin.calls k _ _ l0 t173 _ hA (by have := of_decide_eq_false c2b1; omega) ?side1 ?side2 A3.out).mono ?_); (case side1 => repeat (first | exact HR0.out | (with_reducible refine Kd.C_alloc ?_ _) | (with_reducible refine Kd.C_drewN ?_ _) | (with_reducible refine Kd.C_drew ?_))); (case side2 => exact HC0.out); rintro e w14 ⟨g15, rfl, ho0, hox, hb⟩; refine ⟨_, rfl, ?_⟩; have n0_ := Aside0.mk (Kd.R_lower ho0 (below_size (by repeat (first | (with_reducible first | exact HB.out | apply below_alloc | apply pw_below_drewN | apply below_drew1) | exact HB.out)))); have nx_ := Aside0.mk (Kd.R_lower hox (below_size (by repeat (first | (with_reducible first | exact HB.out | apply below_alloc | apply pw_below_drewN | apply below_drew1) | exact HB.out)))); have n1_ := Aside0.mk (below_step (by repeat (first | (with_reducible first | exact HB.out | apply below_alloc | apply pw_below_drewN | apply below_drew1) | exact HB.out)) hb); clear HB; have HO175 := n0_; have HX := nx_; have HB := n1_; clear n0_ n1_ nx_; (try clear hb); (try clear hb2); (try clear hk); (try clear hi); (try clear ho0); (try clear hox)) | ((with_reducible refine gate_callee (f := 10) rfl ?_); refine goesL_ (some 15) rfl rfl Try.func10 (by kernel_rfl) rfl #[.slice (some ⟨g15, 0, none⟩) t173.length (t173.length + 1)] rfl (by (try simp only [List.map_toArray, List.map_cons, List.map_nil]); first | done | rfl | (simp only [List.length_drop, List.length_take]; rfl)) ?_; (with_reducible refine (gaps_Encode.calls k _ _ t173 t176 t177 _ ?side1 ?side2 A4.out).mono ?_); (case side1 => repeat (first | exact (Kd.R_reads' HO175.out).2.2 | (with_reducible refine Kd.C_alloc ?_ _) | (with_reducible refine Kd.C_drewN ?_ _) | (with_reducible refine Kd.C_drew ?_))); (case side2 => exact (Kd.R_reads' HO175.out).2.1); rintro e w16 ⟨rfl, hb⟩; refine ⟨_, rfl, ?_⟩; have n0_ := Aside0.mk (Kd.R_below (by (with_reducible repeat (first | apply Kd.R_alloc | apply Kd.R_drewN | apply Kd.R_drew)); exact HO175.out) hb); have nx_ := Aside0.mk (Kd.R_below (by (with_reducible repeat (first | apply Kd.R_alloc | apply Kd.R_drewN | apply Kd.R_drew)); exact HX.out) hb); have n1_ := Aside0.mk (below_step (by repeat (first | (with_reducible first | exact HB.out | apply below_alloc | apply pw_below_drewN | apply below_drew1) | exact HB.out)) hb); clear HO175; clear HX; clear HB; have HO175 := n0_; have HX := nx_; have HB := n1_; clear n0_ n1_ nx_; (try clear hb); (try clear hb2); (try clear hk); (try clear hi)) | ((with_reducible refine gate_callee (f := 11) rfl ?_); refine goesL_ (some 20) rfl rfl Try.func11 (by kernel_rfl) rfl #[.slice A0 l0.length c0] rfl (by (try simp only [List.map_toArray, List.map_cons, List.map_nil]); first | done | rfl | (simp only [List.length_drop, List.length_take]; rfl)) ?_; (with_reducible refine (carouselref02_Encode.calls k _ _ l0 t178 t179 _ ?side1 ?side2 A5.out).mono ?_); (case side1 => repeat (first | exact (Kd.C_below HR0.out HB.out) | (with_reducible refine Kd.C_alloc ?_ _) | (with_reducible refine Kd.C_drewN ?_ _) | (with_reducible refine Kd.C_drew ?_))); (case side2 => exact HC0.out); rintro e w17 ⟨rfl, hb⟩; refine ⟨_, rfl, ?_⟩; have n0_ := Aside0.mk (Kd.R_below (by (with_reducible repeat (first | apply Kd.R_alloc | apply Kd.R_drewN | apply Kd.R_drew)); exact HO175.out) hb); have nx_ := Aside0.mk (Kd.R_below (by (with_reducible repeat (first | apply Kd.R_alloc | apply Kd.R_drewN | apply Kd.R_drew)); exact HX.out) hb); have n1_ := Aside0.mk (below_step (by repeat (first | (with_reducible first | exact HB.out | apply below_alloc | apply pw_below_drewN | apply below_drew1) | exact HB.out)) hb); clear HO175; clear HX; clear HB; have HO175 := n0_; have HX := nx_; have HB := n1_; clear n0_ n1_ nx_; (try clear hb); (try clear hb2); (try clear hk); (try clear hi)) | (go_at_call 12; (with_reducible refine (gaps_Check.calls k _ _ t173 t180 _ ?side1 ?side2 A8.out).mono ?_); (case side1 => repeat (first | exact (Kd.R_reads' HO175.out).2.2 | (with_reducible refine Kd.C_alloc ?_ _) | (with_reducible refine Kd.C_drewN ?_ _) | (with_reducible refine Kd.C_drew ?_))); (case side2 => exact (Kd.R_reads' HO175.out).2.1); rintro e w' ⟨rfl, ⟨nd, rfl⟩⟩) | (go_at_call 13; (with_reducible refine (carouselref02_Check.calls k _ _ l0 t181 _ ?side1 ?side2 A9.out).mono ?_); (case side1 => repeat (first | exact (Kd.C_below HR0.out (by repeat (first | (with_reducible first | exact HB.out | apply below_alloc | apply pw_below_drewN | apply below_drew1) | exact HB.out))) | (with_reducible refine Kd.C_alloc ?_ _) | (with_reducible refine Kd.C_drewN ?_ _) | (with_reducible refine Kd.C_drew ?_))); (case side2 => exact HC0.out); rintro e w' ⟨rfl, ⟨nd, rfl⟩⟩) | (go_at_call 14; (refine (carousellaw02_Left.calls k _ (t173.length + 1) t173 _ _ l0 _ (Option.some.inj A3.out).symm ?sidex (by omega) ?side1 ?side2 ?side3 ?side4 A11.out).mono ?_); (case sidex => repeat (first | exact (Kd.R_reads' HX.out).2.2 | (with_reducible refine Kd.C_alloc ?_ _) | (with_reducible refine Kd.C_drewN ?_ _) | (with_reducible refine Kd.C_drew ?_))); (case side1 => repeat (first | exact (Kd.R_reads' HO175.out).2.2 | (with_reducible refine Kd.C_alloc ?_ _) | (with_reducible refine Kd.C_drewN ?_ _) | (with_reducible refine Kd.C_drew ?_))); (case side2 => exact (Kd.R_reads' HO175.out).2.1); (case side3 => repeat (first | exact (Kd.C_below HR0.out (by repeat (first | (with_reducible first | exact HB.out | apply below_alloc | apply pw_below_drewN | apply below_drew1) | exact HB.out))) | (with_reducible refine Kd.C_alloc ?_ _) | (with_reducible refine Kd.C_drewN ?_ _) | (with_reducible refine Kd.C_drew ?_))); (case side4 => exact HC0.out); rintro e w' ⟨rfl, ⟨nd, rfl⟩⟩) | (go_at_call 15; (with_reducible refine (carousellaw02_does.calls k true _ A13.out).mono ?_); rintro e w18 ⟨rfl, hb⟩; have n0_ := Aside0.mk (Kd.R_below (by (with_reducible repeat (first | apply Kd.R_alloc | apply Kd.R_drewN | apply Kd.R_drew)); exact HO175.out) hb); have nx_ := Aside0.mk (Kd.R_below (by (with_reducible repeat (first | apply Kd.R_alloc | apply Kd.R_drewN | apply Kd.R_drew)); exact HX.out) hb); have n1_ := Aside0.mk (below_step (by repeat (first | (with_reducible first | exact HB.out | apply below_alloc | apply pw_below_drewN | apply below_drew1) | exact HB.out)) hb); clear HO175; clear HX; clear HB; have HO175 := n0_; have HX := nx_; have HB := n1_; clear n0_ n1_ nx_; (try clear hb); (try clear hb2); (try clear hk); (try clear hi)))
            go_ret
            exact ⟨by first | rfl | (simp [errW_none, errW_some] <;> rfl) | (simp [*, errW_none, errW_some] <;> rfl), by repeat (first | (with_reducible first | exact HB.out | apply below_alloc | apply pw_below_drewN | apply below_drew1) | exact HB.out)⟩
          · replace c12 := Bool.eq_false_iff.mpr c12
            subst c12
            have H1 : (some false) = some true := by rw [if_neg (show ¬ (false = true) by decide)] at H; exact H
            clear H
            have H := H1
            clear H1
            exact absurd (Option.some.inj H) (by simp)
        · rw [if_neg c10] at H
          have c10b0 : (t180 == t181) = false := beq_eq_false_iff_ne.mpr c10
          have c10b1 : (t180 != t181) = true := bne_iff_ne.mpr c10
          exact absurd (Option.some.inj H) (by simp)
      · rw [if_neg c7] at H
        have c7b0 : (t177 == t179) = false := beq_eq_false_iff_ne.mpr c7
        have c7b1 : (t177 != t179) = true := bne_iff_ne.mpr c7
        exact absurd (Option.some.inj H) (by simp)
    · rw [if_neg c6] at H
      have c6b0 : (t176.toList == t178.toList) = false := beq_eq_false_iff_ne.mpr c6
      have c6b1 : (t176.toList != t178.toList) = true := bne_iff_ne.mpr c6
      exact absurd (Option.some.inj H) (by simp)

/-- THE ONE PURE STATEMENT of carousellaw02_GapsEncode: yours. -/
def carousellaw02_GapsEncode.Pure : Prop := ∀ (l0 : List Int), l0.length ≤ maxLen → l0.length * 8 ≤ 140737488351232 → (∀ x ∈ l0, (Lit.int .i64 x).wf = true) → ∃ k, carousellaw02_GapsEncode.f k l0 = some true
theorem carousellaw02_GapsEncode.walk (P : carousellaw02_GapsEncode.Pure) (a0 : Option Addr) (len0 cap0 : Nat) (z0 : List Int) (w : World) (w0 : (a0 = none ∧ len0 = 0 ∧ cap0 = 0 ∧ z0 = []) ∨ ∃ x, a0 = some x ∧ len0 ≤ cap0 ∧ cap0 ≤ maxLen ∧ z0.length = cap0 ∧ (∀ i, i < z0.length → w.cell? (x.add i) = some (.int .i64 (z0.getD i 0))) ∧ ∀ n ∈ z0, (Lit.int .i64 n).wf = true) (y0 : len0 * 8 ≤ 140737488351232) :
    Calls Try.prog 3 #[.slice a0 len0 cap0] w fun e w' => e = .returned (.bool true) ∧ Below w.heap.size w w' := by
  have hA : a0 = none → cap0 = 0 := by
    rcases w0 with ⟨_, _, rfl, _⟩ | ⟨x, rfl, _⟩
    · exact fun _ => rfl
    · intro e; cases e
  obtain ⟨l0, rfl, hr0, hm0, hw0, hc0⟩ := ReadsInt.ofRowC w0
  obtain ⟨k, h⟩ := P l0 hm0 y0 hw0
  refine (carousellaw02_GapsEncode.calls k _ _ l0 w hA (Kd.C_of_reads (d := (0 : Int)) (h1 := fun _ => rfl) hr0) hc0 h).mono ?_
  rintro e w' ⟨rfl, hd⟩
  exact ⟨rfl, hd⟩

end Go.Proofs.Ytpjlnalhaeopeaa.QGapsEncode
