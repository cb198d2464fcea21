/- ints: the number at a place. Conditions: those that each theorem names. -/
import Derived.Test.YtdlmkdldmiiaiaaInt
namespace Go.Proofs.Ytdlmkdldmiiaiaa.E
open Go.RowKit Go.Sort Go.Shelf
open Go.Proofs.Ytdlmkdldmiiaiaa.Ma Go.Proofs.Ytdlmkdldmiiaiaa.By
set_option linter.unusedVariables false
set_option linter.unusedSimpArgs false
set_option maxRecDepth 100000 in
set_option maxHeartbeats 4000000 in
theorem get_at (s : ByteArray) (a : Nat) (w : World) (ha : a ≤ s.size) (hs : s.size ≤ 1000000) :
    Calls Try.prog 108 #[.string s, .int .i64 (a : Int)] w fun e w' => ∃ (u : Nat) (x : Int) (b : Bool), e = .returned (.tuple #[.int .u64 (u : Int), .int .i64 x, .bool b]) ∧ w' = w ∧
      (match getGo (s.data.toList.drop a) 0 0 with | some (v, k) => b = true ∧ u = v ∧ x = (a : Int) + (k : Int) ∧ u < 18446744073709551616 | none => b = false) := by
  have t1 : ¬ (s.size : Int) < (a : Int) := by omega
  have t1' : ¬ s.size < a := by omega
  have t0 : ¬ (a : Int) < 0 := by omega
  have t3 : decide (s.size < a) = false := decide_eq_false t1'
  have T1 := Lib.hid t1
  obtain ⟨r, hr⟩ : ∃ r : Nat, s.size = a + r := ⟨s.size - a, by omega⟩
  have t4 : (s.size : Int) - (a : Int) = (r : Int) := by omega
  have t5 : (r : Int) < 1000001 := by omega
  obtain ⟨m, hm⟩ : ∃ m : Nat, min (r : Int) 10 = (m : Int) := ⟨(min (r : Int) 10).toNat, by omega⟩
  have HM := Lib.hid (show m ≤ 10 ∧ m ≤ r ∧ (m < 10 → m = r) by omega)
  have HRR := Lib.hid hr
  have HA := Lib.hid ha
  have HS := Lib.hid hs
  obtain ⟨G, hG⟩ : ∃ G, getGo (s.data.toList.drop a) 0 0 = G := ⟨_, rfl⟩
  rw [hG]
  have HG0 := Lib.hid hG
  clear ha hs hr t1 hG
  go_enter Try.func108, Try.ntmps108
  go_wp2
  go_loop [4, 22] (fun x i => ∃ (acc k : Nat), x = .int .u64 (acc : Int) ∧ i = .int .i64 (k : Int) ∧ k ≤ m ∧ acc < 128 ^ k ∧ getGo (s.data.toList.drop (a + k)) k acc = G) (fun _ i => m - (intOf i).toNat)
  case atStart => exact ⟨0, 0, rfl, rfl, by omega, by decide, HG0.out⟩
  case round =>
    obtain ⟨acc, k, rfl, rfl, hk, hacc, hg⟩ := hrel
    have HGK := Lib.hid hg
    by_cases hlt : k < m
    · have i1 : (k : Int) < (m : Int) := by omega
      have i2 : (k : Int) < 10 := by have := HM.out; omega
      have hidx : a + k < s.size := by have := HM.out; have := HRR.out; omega
      obtain ⟨c, hc, hd⟩ := bt_drop hidx
      obtain ⟨j, hj⟩ : ∃ j : Int, (a : Int) + (k : Int) = j := ⟨_, rfl⟩
      have p6 := eq_true (show 0 ≤ j by omega)
      have q6 := eq_true (show j < (s.size : Int) by omega)
      have hx6 := bt_at s j
      rw [show bt s j = (c.toNat : Int) by rw [← hj, ← hc]; congr 1] at hx6
      have i4 : (a : Int) < 1000001 := by have := HA.out; have := HS.out; omega
      have hx256 := c.toNat_lt
      rw [hd] at hg
      unfold getGo at hg
      obtain ⟨x, hx⟩ : ∃ x, c.toNat = x := ⟨_, rfl⟩
      rw [hx] at hx6 hg hx256
      rw [if_neg (show ¬ k = 10 by omega)] at hg
      have HJ := Lib.hid hj
      have HK := Lib.hid hlt
      clear t4 hm t5 t1' t3 t0 hidx hc hd
      go_upto_region 7 with (fail)
      clear hj p6 q6 hx6
      by_cases c91 : k = 9 ∧ 1 < x
      · obtain ⟨c9, c1⟩ := c91
        rw [if_pos ⟨c9, c1⟩] at hg
        subst hg
        have k9 : ((k : Int) == 9) = true := by rw [c9]; rfl
        have b2 : decide (1 < x) = true := decide_eq_true c1
        have b3 := eq_true (show (1 : Int) < (x : Int) by omega)
        clear hk hlt hacc hx hx256 HGK c9
        clear i1 i2 i4
        go_wp2
        exact bodyPost_ret (v := .tuple #[.int .u64 0, .int .i64 0, .bool false]) (by simp [results, Try.results108, go_sem]) rfl ⟨⟨0, 0, rfl⟩, rfl⟩
      · rw [if_neg c91] at hg
        have hfit := fits hacc (show k ≤ 9 by omega) hx256 c91
        have HL := Lib.hid (lay2 acc x k (by omega) hx256 hacc hfit)
        obtain ⟨z, hz⟩ : ∃ z, acc + x % 128 * 128 ^ k = z := ⟨_, rfl⟩
        rw [hz] at HL hg hfit
        have HFIT := Lib.hid hfit
        have HGR := Lib.hid (show z < 128 ^ (k + 1) by rw [← hz, Nat.pow_succ]; exact grows hacc (by omega))
        have hcase : (((k : Int) == 9) = true ∧ decide (1 < x) = false ∧ ((1 : Int) < (x : Int)) = False) ∨ (((k : Int) == 9) = false ∧ decide (1 < x) = decide (1 < x) ∧ True = True) := by
          by_cases c9 : k = 9
          · exact .inl ⟨by rw [c9]; rfl, decide_eq_false (by omega), eq_false (by omega)⟩
          · exact .inr ⟨by simp; omega, rfl, rfl⟩
        clear hx hfit hz c91 hacc HGK
        have HI := Lib.hid (And.intro i1 i2)
        have HI4 := Lib.hid i4
        clear i1 i4
        rcases hcase with ⟨k9, b2, b3⟩ | ⟨k9, b2, b3⟩
        all_goals
          go_upto_region 9 with (fail)
          rw [HL.out]
          clear k9 b2 b3
          by_cases h128 : x < 128
          · rw [if_pos h128] at hg
            have b4 := eq_true (show (x : Int) < 128 by omega)
            have b5 : decide (x < 128) = true := decide_eq_true h128
            have i4 := HI4.out
            by_cases hx0 : 0 < x
            · rw [if_pos (.inl hx0)] at hg
              subst hg
              have b6 : decide (0 < x) = true := decide_eq_true hx0
              have b7 := eq_true (show (0 : Int) < (x : Int) by omega)
              clear h128 hx256 hk hlt hx0
              go_wp2
              exact bodyPost_ret (v := .tuple #[.int .u64 (z : Int), .int .i64 ((a : Int) + (k : Int) + 1), .bool true]) (by simp [results, Try.results108, go_sem]) rfl (by first | exact ⟨z, _, rfl, rfl, by push_cast; omega, HFIT.out⟩ | exact ⟨z, _, rfl, rfl, rfl, by push_cast; omega, HFIT.out⟩)
            · have b6 : decide (0 < x) = false := decide_eq_false hx0
              have b7 := eq_false (show ¬ (0 : Int) < (x : Int) by omega)
              by_cases hk0 : k = 0
              · rw [if_pos (.inr hk0)] at hg
                subst hg
                have k0 : ((k : Int) == 0) = true := by rw [hk0]; rfl
                have HK0 := Lib.hid hk0
                clear h128 hx256 hk hlt hx0 hk0
                go_wp2
                exact bodyPost_ret (v := .tuple #[.int .u64 (z : Int), .int .i64 ((a : Int) + (k : Int) + 1), .bool true]) (by simp [results, Try.results108, go_sem]) rfl (by first | exact ⟨z, _, rfl, rfl, by push_cast; omega, HFIT.out⟩ | exact ⟨z, _, rfl, rfl, rfl, by push_cast; omega, HFIT.out⟩)
              · rw [if_neg (by omega)] at hg
                subst hg
                have k0 : ((k : Int) == 0) = false := by simp; omega
                clear h128 hx256 hk hlt hx0 hk0
                go_wp2
                exact bodyPost_ret (v := .tuple #[.int .u64 (z : Int), .int .i64 ((a : Int) + (k : Int) + 1), .bool false]) (by simp [results, Try.results108, go_sem]) rfl (by first | exact ⟨⟨z, _, rfl⟩, rfl⟩ | exact ⟨z, _, rfl, rfl⟩)
          · rw [if_neg h128] at hg
            have b4 := eq_false (show ¬ (x : Int) < 128 by omega)
            have b5 : decide (x < 128) = false := decide_eq_false h128
            have HG2 := Lib.hid hg
            have i2 := HI.out.2
            clear h128 hx256 hk hlt hg
            go_wp2
            go_round
            case rel => exact ⟨z, k + 1, rfl, by go_num, HK.out, HGR.out, HG2.out⟩
            case measure => have := HK.out; simp [intOf]; omega
    · obtain rfl : k = m := by omega
      have hnone : getGo (s.data.toList.drop (a + k)) k acc = none := by
        by_cases h10 : k < 10
        · have e1 := HM.out.2.2 h10
          rw [List.drop_eq_nil_of_le (by rw [data_len]; have := HRR.out; omega)]
          rfl
        · have : k = 10 := by have := HM.out; omega
          rw [this]
          exact getGo_10 _ _
      rw [hnone] at hg
      subst hg
      clear hnone hk hlt hacc hm t4 t5
      go_wp2
      exact bodyPost_ret (v := .tuple #[.int .u64 0, .int .i64 0, .bool false]) (by simp [results, Try.results108, go_sem]) rfl (by first | exact ⟨⟨0, 0, rfl⟩, rfl⟩ | exact ⟨0, 0, rfl, rfl⟩)
theorem get_neg (s : ByteArray) (a : Int) (w : World) (ha : a < 0 ∨ (s.size : Int) < a) :
    Calls Try.prog 108 #[.string s, .int .i64 a] w fun e w' => e = .returned (.tuple #[.int .u64 0, .int .i64 0, .bool false]) ∧ w' = w := by
  by_cases h0 : a < 0
  · clear ha
    go_enter Try.func108, Try.ntmps108
    go_wp2
    exact bodyPost_ret (v := .tuple #[.int .u64 0, .int .i64 0, .bool false]) (by simp [results, Try.results108, go_sem]) rfl ⟨rfl, rfl⟩
  · have h1 : (s.size : Int) < a := by omega
    have h2 : decide (a > (s.size : Int)) = true := decide_eq_true h1
    clear ha
    go_enter Try.func108, Try.ntmps108
    go_wp2
    exact bodyPost_ret (v := .tuple #[.int .u64 0, .int .i64 0, .bool false]) (by simp [results, Try.results108, go_sem]) rfl ⟨rfl, rfl⟩
theorem getx_at (s : ByteArray) (a : Int) (w : World) (hs : s.size ≤ 1000000) :
    Calls Try.prog 94 #[.string s, .int .i64 a] w fun e w' => e = .returned (.tuple #[.int .i64 (getC s a).1, .int .i64 (getC s a).2.1, .bool (getC s a).2.2]) ∧ w' = w := by
  by_cases ha : a < 0 ∨ (s.size : Int) < a
  · have e1 : getC s a = (0, 0, false) := by unfold getC; rw [if_pos ha]
    rw [e1]
    have HG := Lib.hid (get_neg s a w ha)
    clear ha
    go_enter Try.func94, Try.ntmps94
    go_wp2_with (go_at_call 108; refine HG.out.mono ?_; rintro e w2 ⟨rfl, rfl⟩)
    exact bodyPost_ret (v := .tuple #[.int .i64 0, .int .i64 0, .bool false]) (by simp [results, Try.results94, go_sem]) rfl ⟨rfl, rfl⟩
  · obtain ⟨b, rfl⟩ : ∃ b : Nat, a = (b : Int) := ⟨a.toNat, by omega⟩
    have HG := get_at s b w (by omega) hs
    have e1 : getC s (b : Int) = match getGo (s.data.toList.drop b) 0 0 with | some (u, k) => if u ≤ 9223372036854775807 then ((u : Int), (b : Int) + (k : Int), true) else (0, 0, false) | none => (0, 0, false) := by
      unfold getC
      rw [if_neg ha, Int.toNat_natCast]
      rfl
    rw [e1]
    cases hG : getGo (s.data.toList.drop b) 0 0 with
    | none =>
      rw [hG] at HG
      have HG := Lib.hid HG
      clear ha hG e1
      go_enter Try.func94, Try.ntmps94
      go_wp2_with (go_at_call 108; refine HG.out.mono ?_; rintro e w2 ⟨u, x, b2, rfl, rfl, rfl⟩)
      exact bodyPost_ret (v := .tuple #[.int .i64 0, .int .i64 0, .bool false]) (by simp [results, Try.results94, go_sem]) rfl ⟨rfl, rfl⟩
    | some p =>
      obtain ⟨v, k⟩ := p
      rw [hG] at HG
      dsimp only
      by_cases hv : v ≤ 9223372036854775807
      · rw [if_pos hv]
        have HG := Lib.hid HG
        have j1 : ¬ (9223372036854775807 < v) := by omega
        have j2 : decide (9223372036854775807 < v) = false := decide_eq_false j1
        have j3 : wrap64 (v : Int) = (v : Int) := by unfold wrap64; omega
        clear ha hG e1 hv
        go_enter Try.func94, Try.ntmps94
        go_wp2_with (go_at_call 108; refine HG.out.mono ?_; rintro e w2 ⟨u, x, b2, rfl, rfl, rfl, rfl, rfl, _⟩)
        exact bodyPost_ret (v := .tuple #[.int .i64 (u : Int), .int .i64 ((b : Int) + (k : Int)), .bool true]) (by simp [results, Try.results94, go_sem]) rfl ⟨rfl, rfl⟩
      · rw [if_neg hv]
        have HG := Lib.hid HG
        have j1 : 9223372036854775807 < v := by omega
        have j2 : decide (9223372036854775807 < v) = true := decide_eq_true j1
        clear ha hG e1 hv
        go_enter Try.func94, Try.ntmps94
        go_wp2_with (go_at_call 108; refine HG.out.mono ?_; rintro e w2 ⟨u, x, b2, rfl, rfl, rfl, rfl, rfl, _⟩)
        exact bodyPost_ret (v := .tuple #[.int .i64 0, .int .i64 0, .bool false]) (by simp [results, Try.results94, go_sem]) rfl ⟨rfl, rfl⟩
end Go.Proofs.Ytdlmkdldmiiaiaa.E
