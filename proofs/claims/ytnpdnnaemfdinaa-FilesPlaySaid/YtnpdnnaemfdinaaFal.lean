/- FilesFail, walked. Conditions: the arguments are of their kinds. -/
import Derived.Test.YtnpdnnaemfdinaaNms
namespace Go.Proofs.Ytnpdnnaemfdinaa.F
open Go.RowKit Go.Maps Go.Sort Go.Shelf
open Go.Proofs.Ytnpdnnaemfdinaa.Ma
set_option linter.unusedVariables false
set_option linter.unusedSimpArgs false
def sX : ByteArray := ⟨#[120]⟩
def sY : ByteArray := ⟨#[121]⟩
theorem sX_len : sX.size ≤ maxLen := by decide
theorem sY_len : sY.size ≤ maxLen := by decide
def leftAt (n i : Nat) : Int := if i ≤ n then (n : Int) - i else -1
theorem fal_y (left : Int) (P : List ByteArray) (i : Int) : readD left [(sX, P)] sY i = (⟨#[]⟩, 4, left) := by
  have hl : lookD [(sX, P)] sY = [] := by
    unfold lookD
    rw [List.find?_cons_of_neg (by show ¬ (nm sX == nm sY) = true; decide)]
    rfl
  have ht : thereD [(sX, P)] sY i = 4 := by unfold thereD; rw [hl, if_neg (by simp)]
  unfold readD
  rw [if_pos ht]
theorem fal_x (left : Int) (P Q : ByteArray) (i : Nat) (hi : i < 2) : readD left [(sX, [P, Q])] sX i = if left = 0 then (⟨#[]⟩, 60, -1) else ([P, Q].getD i ⟨#[]⟩, 0, if left = -1 then -1 else left - 1) := by
  have ht : thereD [(sX, [P, Q])] sX i = 0 := by unfold thereD; rw [look_one, if_pos ⟨by omega, by simp; omega⟩]
  unfold readD
  rw [if_neg (by rw [ht]; decide), look_one, Int.toNat_natCast]
theorem fal_w {P Q : ByteArray} (hP : P.size = 128) (hQ : Q.size = 128) : writeF 2 [] sX [P, Q] = (0, [(sX, [P, Q])]) := by
  have hn : nameOk sX = true := by decide +kernel
  unfold writeF
  rw [if_neg (by simp [hn, hP, hQ]), if_neg (by simp [pagesD, lookD])]
  rfl
theorem fal_ok {n i : Nat} (h : i < n ∨ n < i) : leftAt n i ≠ 0 ∧ (if leftAt n i = -1 then -1 else leftAt n i - 1) = leftAt n (i + 1) := by
  rcases h with h | h
  · have e1 : leftAt n i = (n : Int) - i := if_pos (by omega)
    have e2 : leftAt n (i + 1) = (n : Int) - (i + 1 : Nat) := if_pos (by omega)
    rw [e1, e2, if_neg (by omega)]
    exact ⟨by omega, by omega⟩
  · have e1 : leftAt n i = -1 := if_neg (by omega)
    have e2 : leftAt n (i + 1) = -1 := if_neg (by omega)
    rw [e1, e2, if_pos rfl]
    exact ⟨by decide, rfl⟩
theorem fal_at (n : Nat) : leftAt n n = 0 ∧ leftAt n (n + 1) = -1 := by
  have e1 : leftAt n n = (n : Int) - n := if_pos (by omega)
  have e2 : leftAt n (n + 1) = -1 := if_neg (by omega)
  rw [e1, e2]
  exact ⟨by omega, rfl⟩
set_option maxRecDepth 100000 in
set_option maxHeartbeats 4000000 in
theorem fail_law (n o : Nat) (c : UInt8) (hn : n ≤ 255) (ho : o ≤ 255) (w : World) : Calls Try.prog 3 #[.int .u8 (n : Int), .int .u8 (c.toNat : Int), .int .u8 (o : Int)] w fun e w' => e = .returned (.bool true) ∧ Below w.heap.size w w' := by
  obtain ⟨c1, hc1⟩ : ∃ d : UInt8, IntKind.u8.wrap ((c.toNat : Int) + 1) = (d.toNat : Int) := ⟨c + 1, by
    have := c.toNat_lt
    rw [UInt8.toNat_add]
    simp only [IntKind.wrap, IntKind.bits, IntKind.signed]
    simp⟩
  have wn : IntKind.i64.wrap (n : Int) = (n : Int) := IntWalk.i64_in _ ⟨by omega, by omega⟩
  have wn3 : IntKind.i64.wrap ((n : Int) + 3) = (n : Int) + 3 := IntWalk.i64_in _ ⟨by omega, by omega⟩
  have wnn : IntKind.i64.wrap (-1 - (n : Int)) = -1 - (n : Int) := IntWalk.i64_in _ ⟨by omega, by omega⟩
  have wo : IntKind.i64.wrap (o : Int) = (o : Int) := IntWalk.i64_in _ ⟨by omega, by omega⟩
  obtain ⟨m, hm⟩ : ∃ m, o % 3 = m := ⟨_, rfl⟩
  have hm3 : m < 3 := by omega
  have wm : (o : Int).tmod 3 = (m : Int) := by rw [Int.tmod_eq_emod_of_nonneg (by omega)]; omega
  have wm2 : IntKind.i64.wrap (m : Int) = (m : Int) := IntWalk.i64_in _ ⟨by omega, by omega⟩
  have hu1 : IntKind.u8.wrap (c.toNat : Int) = (c.toNat : Int) := by
    have := c.toNat_lt
    simp only [IntKind.wrap, IntKind.bits, IntKind.signed]
    simp
    omega
  have HP := Lib.hid (fun w => page_law c w)
  have HQ := Lib.hid (fun w => page_law c1 w)
  have hs1 := page_size c
  have hs2 := page_size c1
  generalize pageOf c = P at HP hs1
  generalize pageOf c1 = Q at HQ hs2
  have HW := Lib.hid (fal_w hs1 hs2)
  have HF := Lib.hid (show failF (-1) (n : Int) = (0, leftAt n 0) by unfold failF leftAt; rw [if_neg (by omega), if_pos (by omega)]; simp)
  have HF2 := Lib.hid (show ∀ l, failF l (-1 - (n : Int)) = (2, l) from fun l => by unfold failF; rw [if_pos (by omega)])
  clear hm hs1 hs2 ho
  go_enter Try.func3, Try.ntmps3
  go_wp2_with (first
    | (go_at_call 10; refine (new_at 2 _ (by decide) (by decide)).mono ?_; rintro e w1 ⟨b, bm, rfl, h1, hb1⟩; have H1 := Lib.hid h1; have B1 := Lib.hid hb1; clear h1 hb1)
    | (go_at_call 12; refine (HQ.out _).mono ?_; rintro e w3 ⟨rfl, hb3⟩; have H3 := Lib.hid (H2.out.below hb3); have B3 := Lib.hid (below_low B2.out hb3); clear hb3)
    | (go_at_call 12; refine (HP.out _).mono ?_; rintro e w2 ⟨rfl, hb2⟩; have H2 := Lib.hid (H1.out.below hb2); have B2 := Lib.hid (below_low B1.out hb2); clear hb2)
    | (go_at_call 11; refine (c_write (n := 2) HW.out sX_len rfl (by decide) (lies_lit w3 [P, Q] rfl) (H3.out.below ((Below.refl _ _).alloc (Nat.le_refl _) _))).mono ?_; rintro e w4 ⟨rfl, h4, hf4⟩; have H4 := Lib.hid h4; have B4 := Lib.hid (fr_low (below_low B3.out ((Below.refl _ _).alloc (Nat.le_refl _) _)) hf4); clear h4 hf4)
    | (go_at_call 13; refine (c_fail HF.out (by omega) H4.out).mono ?_; rintro e w5 ⟨rfl, h5, hf5⟩; have H5 := Lib.hid h5; have B5 := Lib.hid (fr_low B4.out hf5); clear h5 hf5))
  go_loopw [9] (fun i wi => ∃ k : Nat, k ≤ n + 3 ∧ i = .int .i64 k ∧ FsX (fun k => k < w.heap.size) wi b bm 2 (leftAt n k) [(sX, [P, Q])] ∧ Below w.heap.size w wi) (fun i _ => n + 3 - (intOf i).toNat)
  case atStart => exact ⟨0, by omega, rfl, H5.out, B5.out⟩
  case round =>
    obtain ⟨k, hk, rfl, hx, hb⟩ := hrel
    have HX := Lib.hid hx
    have HB := Lib.hid hb
    clear hx hb
    obtain ⟨w0, hw0⟩ : ∃ V, V = wr := ⟨_, rfl⟩
    subst hw0
    by_cases hlt : k < n + 3
    · have i1 : (k : Int) < (n : Int) + 3 := by omega
      go_wp2
      go_loopw [10] (fun q wi => ∃ t : Nat, t ≤ m ∧ q = .int .i64 t ∧ FsX (fun k => k < w.heap.size) wi b bm 2 (leftAt n k) [(sX, [P, Q])] ∧ Below w.heap.size w wi) (fun q _ => m - (intOf q).toNat)
      case atStart => exact ⟨0, by omega, rfl, HX.out, HB.out⟩
      case round =>
        obtain ⟨t, ht, rfl, hx, hb⟩ := hrel
        have HX2 := Lib.hid hx
        have HB2 := Lib.hid hb
        clear hx hb
        by_cases htl : t < m
        · have i2 : (t : Int) < (m : Int) := by omega
          go_wp2_with (go_at_call 14; refine (c_read (fal_y _ _ _) sY_len HX2.out).mono ?_; rintro e w6 ⟨rfl, h6, hf6⟩; have H6 := Lib.hid h6; have B6 := Lib.hid (fr_low HB2.out hf6); clear h6 hf6)
          go_roundw
          case rel => exact ⟨t + 1, by omega, by go_num, H6.out, B6.out⟩
          case measure => simp [intOf]; omega
        · obtain rfl : t = m := by omega
          have w00 : IntKind.i64.wrap (0 : Int) = 0 := by decide
          have w01 : IntKind.i64.wrap (1 : Int) = 1 := by decide
          have w10 : IntKind.u8.wrap (0 : Int) = 0 := by decide
          have w11 : IntKind.u8.wrap (1 : Int) = 1 := by decide
          have hkr : k % 2 = 0 ∨ k % 2 = 1 := by omega
          rcases hkr with h2 | h2
          · have k2 : (k : Int).tmod 2 = 0 := by rw [Int.tmod_eq_emod_of_nonneg (by omega)]; omega
            clear h2
            by_cases hkn : k = n
            · skip
              have hr : readD (leftAt n k) [(sX, [P, Q])] sX 0 = (⟨#[]⟩, 60, leftAt n (k + 1)) := by
                have := fal_x (leftAt n k) P Q 0 (by decide)
                have hz : leftAt n k = 0 ∧ leftAt n (k + 1) = -1 := by rw [hkn]; exact fal_at n
                rw [if_pos hz.1] at this
                rw [hz.2]
                exact this
              have HR := Lib.hid hr
              have e1 : ((k : Int) == (n : Int)) = true := by simp; omega
              clear hr hkn
              go_wp2_with (go_at_call 14; refine (c_read HR.out sX_len HX2.out).mono ?_; rintro e w6 ⟨rfl, h6, hf6⟩; have H6 := Lib.hid h6; have B6 := Lib.hid (fr_low HB2.out hf6); clear h6 hf6)
              go_roundw
              case rel => exact ⟨k + 1, by omega, by go_num, H6.out, B6.out⟩
              case measure => simp [intOf]; omega
            · skip
              have hr : readD (leftAt n k) [(sX, [P, Q])] sX 0 = (P, 0, leftAt n (k + 1)) := by
                have := fal_x (leftAt n k) P Q 0 (by decide)
                have hz := fal_ok (n := n) (i := k) (by omega)
                rw [if_neg hz.1, hz.2] at this
                exact this
              have HR := Lib.hid hr
              have e1 : ((k : Int) == (n : Int)) = false := by simp; omega
              have NKN := Lib.hid hkn
              clear hr hkn
              go_wp2_with (first
                | (go_at_call 14; refine (c_read HR.out sX_len HX2.out).mono ?_; rintro e w6 ⟨rfl, h6, hf6⟩; have H6 := Lib.hid h6; have B6 := Lib.hid (fr_low HB2.out hf6); clear h6 hf6)
                | (go_at_call 12; refine (HP.out _).mono ?_; rintro e w7 ⟨rfl, hb7⟩; have H7 := Lib.hid (H6.out.below hb7); have B7 := Lib.hid (below_low B6.out hb7); clear hb7))
              go_roundw
              case rel => exact ⟨k + 1, by omega, by go_num, H7.out, B7.out⟩
              case measure => simp [intOf]; omega
          · have k2 : (k : Int).tmod 2 = 1 := by rw [Int.tmod_eq_emod_of_nonneg (by omega)]; omega
            clear h2
            by_cases hkn : k = n
            · skip
              have hr : readD (leftAt n k) [(sX, [P, Q])] sX 1 = (⟨#[]⟩, 60, leftAt n (k + 1)) := by
                have := fal_x (leftAt n k) P Q 1 (by decide)
                have hz : leftAt n k = 0 ∧ leftAt n (k + 1) = -1 := by rw [hkn]; exact fal_at n
                rw [if_pos hz.1] at this
                rw [hz.2]
                exact this
              have HR := Lib.hid hr
              have e1 : ((k : Int) == (n : Int)) = true := by simp; omega
              clear hr hkn
              go_wp2_with (go_at_call 14; refine (c_read HR.out sX_len HX2.out).mono ?_; rintro e w6 ⟨rfl, h6, hf6⟩; have H6 := Lib.hid h6; have B6 := Lib.hid (fr_low HB2.out hf6); clear h6 hf6)
              go_roundw
              case rel => exact ⟨k + 1, by omega, by go_num, H6.out, B6.out⟩
              case measure => simp [intOf]; omega
            · skip
              have hr : readD (leftAt n k) [(sX, [P, Q])] sX 1 = (Q, 0, leftAt n (k + 1)) := by
                have := fal_x (leftAt n k) P Q 1 (by decide)
                have hz := fal_ok (n := n) (i := k) (by omega)
                rw [if_neg hz.1, hz.2] at this
                exact this
              have HR := Lib.hid hr
              have e1 : ((k : Int) == (n : Int)) = false := by simp; omega
              have NKN := Lib.hid hkn
              clear hr hkn
              go_wp2_with (first
                | (go_at_call 14; refine (c_read HR.out sX_len HX2.out).mono ?_; rintro e w6 ⟨rfl, h6, hf6⟩; have H6 := Lib.hid h6; have B6 := Lib.hid (fr_low HB2.out hf6); clear h6 hf6)
                | (go_at_call 12; refine (HQ.out _).mono ?_; rintro e w7 ⟨rfl, hb7⟩; have H7 := Lib.hid (H6.out.below hb7); have B7 := Lib.hid (below_low B6.out hb7); clear hb7))
              go_roundw
              case rel => exact ⟨k + 1, by omega, by go_num, H7.out, B7.out⟩
              case measure => simp [intOf]; omega
    · obtain rfl : k = n + 3 := by omega
      have e1 : ((n + 3 : Nat) : Int) = (n : Int) + 3 := by omega
      rw [e1]
      go_wp2_with (first
        | (go_at_call 13; refine (c_fail (HF2.out _) (by omega) HX.out).mono ?_; rintro e w7 ⟨rfl, h7, hf7⟩; have B7 := Lib.hid (fr_low HB.out hf7); clear h7 hf7)
        | (go_at_call 15; refine (does_at _).mono ?_; rintro e w8 ⟨rfl, hb8⟩; have B8 := Lib.hid (below_low B7.out hb8); clear hb8))
      go_ret
      exact ⟨rfl, B8.out⟩
end Go.Proofs.Ytnpdnnaemfdinaa.F
