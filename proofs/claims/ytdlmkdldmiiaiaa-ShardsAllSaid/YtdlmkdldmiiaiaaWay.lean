/- ShardsWay, walked: what is decoded was encoded so, and may be. No condition. -/
import Derived.Test.YtdlmkdldmiiaiaaDoe
namespace Go.Proofs.Ytdlmkdldmiiaiaa.E
open Go.RowKit Go.Sort Go.Shelf
open Go.Proofs.Ytdlmkdldmiiaiaa.Ma Go.Proofs.Ytdlmkdldmiiaiaa.By Go.Proofs.Ytdlmkdldmiiaiaa.Enc
set_option linter.unusedVariables false
set_option linter.unusedSimpArgs false
theorem encS_two (lo hi : Int) (O : List (List Int)) : (encS lo hi O).2 = checkC lo hi O := by
  unfold encS
  split
  · rename_i h; exact h.symm
  · rfl
/-- Decode tells a shard that has just these bytes, or none. -/
theorem decS_or (s : ByteArray) : decS s = (0, 0, [], 10) ∨ ∃ lo hi O, decS s = (lo, hi, O, 0) ∧ checkC lo hi O = 0 ∧ bytesB (encS lo hi O).1 = s := by
  unfold decS decZ
  split
  · exact .inl rfl
  · rename_i h
    refine .inr ⟨_, _, _, rfl, ?_, ?_⟩
    · have : ¬ (encS _ _ _).2 ≠ 0 := fun e => h (.inr (.inl e))
      rw [encS_two] at this
      exact Classical.byContradiction this
    · exact Classical.byContradiction fun e => h (.inr (.inr e))
/-- So many numbers at most are in a shard that may be. -/
theorem fits_len {lo hi : Int} {O : List (List Int)} (h : checkC lo hi O = 0) : O.length ≤ 256 ∧ manyC O ≤ 4096 := by
  have f := fits_of h
  have := f.len
  have := f.h0
  have := f.h2
  exact ⟨by omega, f.many⟩
set_option maxRecDepth 100000 in
set_option maxHeartbeats 4000000 in
theorem way_at (s : ByteArray) (w : World) : Calls Try.prog 4 #[.string s] w fun e w' => e = .returned (.bool true) ∧ Below w.heap.size w w' := by
  by_cases hs : 3000 < s.size
  · have j1 : decide (3000 < s.size) = true := decide_eq_true hs
    have j2 : decide ((s.size : Int) > 3000) = true := decide_eq_true (by omega)
    clear hs
    go_enter Try.func4, Try.ntmps4
    go_wp2
    go_ret
    exact ⟨rfl, Below.refl _ _⟩
  · have j1 : decide (3000 < s.size) = false := decide_eq_false hs
    have j2 : decide ((s.size : Int) > 3000) = false := decide_eq_false (by omega)
    have HD := Lib.hid (decS_at s w (by omega))
    have HDOES := Lib.hid (fun V => does_at V)
    rcases decS_or s with h | ⟨lo, hi, O, h, hc, hb⟩
    · rw [h] at HD
      unfold shV at HD
      dsimp only at HD
      have HSM := Lib.hid (fun A c V => same_at 0 0 A c [] 0 0 none 0 [] V (fun j L hL => by simp at hL) (fun j L hL => by simp at hL) (by decide) (by decide) (by decide) (by decide))
      rw [show sameC 0 0 [] 0 0 [] = true from by decide] at HSM
      unfold shV at HSM
      simp only [List.length_nil] at HSM HD
      clear hs h
      go_enter Try.func4, Try.ntmps4
      go_upto_region 4 with (go_at_call 15; refine HD.out.mono ?_; rintro e w2 ⟨A, c, rfl, hl, hcc, hb2⟩; have HB2 := Lib.hid hb2; clear hl hcc hb2)
      obtain ⟨W3, hW3, gW3, bW3, sW3⟩ := box_new w2 (.cells #[.int .i64 0, .int .i64 0, .slice A 0 c] 28 (0, 0))
      rw [hW3]
      have HB3 := Lib.hid (HB2.out.trans (bW3.mono HB2.out.size))
      obtain ⟨q0, q1, q2, _, _, _⟩ := Box3.cells (show Box3 W3 w2.heap.size 0 0 (.slice A 0 c) from gW3)
      clear hW3 gW3 bW3 sW3
      go_wp2_with (first | (go_at_call 10; refine (HSM.out _ _ _).mono ?_; rintro e w4 ⟨rfl, hb4⟩; have HB4 := Lib.hid (HB3.out.trans (hb4.mono HB3.out.size)); clear hb4) | (go_at_call 14; refine (HDOES.out _).mono ?_; rintro e w5 ⟨rfl, hb5⟩; have HB5 := Lib.hid (HB4.out.trans (hb5.mono HB4.out.size)); clear hb5))
      go_ret
      exact ⟨rfl, HB5.out⟩
    · rw [h] at HD
      unfold shV at HD
      dsimp only at HD
      obtain ⟨n1, n2⟩ := fits_len hc
      have HEN := Lib.hid (fun A c V h => encS_at lo hi A c O V h (by omega) (by omega))
      have HCH := Lib.hid (fun A c V h => checks_at lo hi A c O V h (by omega) (by omega))
      rw [hb, encS_two, hc] at HEN
      rw [hc] at HCH
      unfold shV at HEN HCH
      have js : (s.toList == s.toList) = true := beq_self_eq_true _
      clear hs h hc hb n1 n2
      go_enter Try.func4, Try.ntmps4
      go_upto_region 4 with (go_at_call 15; refine HD.out.mono ?_; rintro e w2 ⟨A, c, rfl, hl, hcc, hb2⟩; have HB2 := Lib.hid hb2; have HL2 := Lib.hid hl; clear hl hcc hb2)
      obtain ⟨W3, hW3, gW3, bW3, sW3⟩ := box_new w2 (.cells #[.int .i64 lo, .int .i64 hi, .slice A O.length c] 28 (0, 0))
      rw [hW3]
      have HB3 := Lib.hid (HB2.out.trans (bW3.mono HB2.out.size))
      have HL3 := Lib.hid (HL2.out.below bW3 (Nat.le_refl _))
      have HG3 := Lib.hid (show Box3 W3 w2.heap.size lo hi (.slice A O.length c) from gW3)
      obtain ⟨q0, q1, q2, _, _, _⟩ := Box3.cells HG3.out
      clear hW3 gW3 bW3 sW3
      go_upto_region 7 with (go_at_call 16; refine (HEN.out _ _ _ HL3.out).mono ?_; rintro e w4 ⟨rfl, hb4⟩; have HB34 := Lib.hid hb4; clear hb4)
      have HB4 := Lib.hid (HB3.out.trans (HB34.out.mono HB3.out.size))
      have HL4 := Lib.hid (HL3.out.below HB34.out (Nat.le_refl _))
      have HG4 := Lib.hid ((Fr.of_below HB34.out).keep HG3.out (fun e => e))
      clear q0 q1 q2
      obtain ⟨q0, q1, q2, _, _, _⟩ := Box3.cells HG4.out
      go_wp2_with (first | (go_at_call 17; refine (HCH.out _ _ _ HL4.out).mono ?_; rintro e w5 ⟨rfl, hb5⟩; have HB5 := Lib.hid (HB4.out.trans (hb5.mono HB4.out.size)); clear hb5) | (go_at_call 14; refine (HDOES.out _).mono ?_; rintro e w6 ⟨rfl, hb6⟩; have HB6 := Lib.hid (HB5.out.trans (hb6.mono HB5.out.size)); clear hb6))
      go_ret
      exact ⟨rfl, HB6.out⟩
end Go.Proofs.Ytdlmkdldmiiaiaa.E
