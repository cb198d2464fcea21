/- sums: the register, byte by byte. Conditions: those that each theorem names. -/
import Derived.Test.YtdlmkdldmiiaiaaGap
namespace Go.Proofs.Ytdlmkdldmiiaiaa.E
open Go.RowKit Go.Sort Go.Shelf
open Go.Proofs.Ytdlmkdldmiiaiaa.Ma Go.Proofs.Ytdlmkdldmiiaiaa.By
set_option linter.unusedVariables false
set_option linter.unusedSimpArgs false
def upN (r : Nat) : Nat := (r / 2) ^^^ (if r % 2 = 1 then 3988292384 else 0)
def upsN : Nat → Nat → Nat
  | 0, r => r
  | k + 1, r => upsN k (upN r)
def inN (r c : Nat) : Nat := upsN 8 (r ^^^ c)
def goesN (r : Nat) (l : List UInt8) : Nat := l.foldl (fun r c => inN r c.toNat) r
def moreN (r : Nat) (l : List UInt8) : Nat := 4294967295 ^^^ goesN (4294967295 ^^^ r) l
theorem xor32_lt {a b : Nat} (ha : a < 4294967296) (hb : b < 4294967296) : a ^^^ b < 4294967296 := Nat.xor_lt_two_pow (n := 32) (by omega) (by omega)
theorem xor_u32 (a b : Nat) (ha : a < 4294967296) (hb : b < 4294967296) : bits .xor .u32 (a : Int) (b : Int) = ((a ^^^ b : Nat) : Int) := by
  have hx : a ^^^ b < 2 ^ 32 := Nat.xor_lt_two_pow (by omega) (by omega)
  have h1 : (BitVec.ofInt 32 (a : Int)).toNat = a := by
    rw [BitVec.ofInt_natCast, BitVec.toNat_ofNat]; exact Nat.mod_eq_of_lt (by omega)
  have h2 : (BitVec.ofInt 32 (b : Int)).toNat = b := by
    rw [BitVec.ofInt_natCast, BitVec.toNat_ofNat]; exact Nat.mod_eq_of_lt (by omega)
  show IntKind.u32.wrap (((BitVec.ofInt 32 (a : Int)) ^^^ (BitVec.ofInt 32 (b : Int))).toNat : Int) = _
  rw [BitVec.toNat_xor, h1, h2, IntKind.wrap_u32]
  omega
theorem upN_lt {r : Nat} (h : r < 4294967296) : upN r < 4294967296 := by
  unfold upN
  exact xor32_lt (by omega) (by split <;> omega)
theorem upsN_lt : ∀ (k : Nat) {r : Nat}, r < 4294967296 → upsN k r < 4294967296
  | 0, _, h => h
  | k + 1, _, h => upsN_lt k (upN_lt h)
theorem inN_lt {r : Nat} (c : UInt8) (h : r < 4294967296) : inN r c.toNat < 4294967296 := by
  have := c.toNat_lt
  exact upsN_lt 8 (xor32_lt h (by omega))
theorem goesN_lt : ∀ (l : List UInt8) {r : Nat}, r < 4294967296 → goesN r l < 4294967296
  | [], _, h => h
  | c :: l, _, h => goesN_lt l (inN_lt c h)
theorem moreN_lt {r : Nat} (l : List UInt8) (h : r < 4294967296) : moreN r l < 4294967296 := xor32_lt (by omega) (goesN_lt l (xor32_lt (by omega) h))
theorem and_u32 (r : Nat) (h : r < 4294967296) : bits .and .u32 (r : Int) 1 = (r : Int) % 2 :=
  bits_mask .u32 32 (by decide) (fun n h0 h1 => by rw [IntKind.wrap_u32]; have : (2 : Int) ^ 32 = 4294967296 := by decide
                                                   omega) 1 (by decide) r (by omega) (by have : (2 : Int) ^ 32 = 4294967296 := by decide
                                                                                         omega)
theorem up_bits (r : Nat) (h : r < 4294967296) : bits .xor .u32 ((r : Int) / 2) (3988292384 * bits .and .u32 (r : Int) 1 % 4294967296) = (upN r : Int) := by
  rw [and_u32 r h]
  unfold upN
  have h0 := Nat.mod_two_eq_zero_or_one r
  rw [show (r : Int) / 2 = ((r / 2 : Nat) : Int) by omega]
  rcases h0 with h0 | h0
  · rw [if_neg (by omega), show (3988292384 * ((r : Int) % 2) % 4294967296 : Int) = ((0 : Nat) : Int) by omega]
    exact xor_u32 _ _ (by omega) (by omega)
  · rw [if_pos h0, show (3988292384 * ((r : Int) % 2) % 4294967296 : Int) = ((3988292384 : Nat) : Int) by omega]
    exact xor_u32 _ _ (by omega) (by omega)
theorem up_at (r : Nat) (w : World) (hr : r < 4294967296) :
    Calls Try.prog 119 #[.int .u32 (r : Int)] w fun e w' => e = .returned (.int .u32 (upN r : Int)) ∧ w' = w := by
  have h1 := up_bits r hr
  go_enter Try.func119, Try.ntmps119
  go_wp2
  go_ret
  exact ⟨rfl, rfl⟩
set_option maxRecDepth 100000 in
set_option maxHeartbeats 1000000 in
theorem in_at (r : Nat) (c : UInt8) (w : World) (hr : r < 4294967296) :
    Calls Try.prog 109 #[.int .u32 (r : Int), .int .u8 (c.toNat : Int)] w fun e w' => e = .returned (.int .u32 (inN r c.toNat : Int)) ∧ w' = w := by
  have hc := c.toNat_lt
  obtain ⟨x, hx⟩ : ∃ x, c.toNat = x := ⟨_, rfl⟩
  rw [hx] at hc ⊢
  have h1 := xor_u32 r x hr (by omega)
  have hlt := xor32_lt hr (show x < 4294967296 by omega)
  obtain ⟨y, hy⟩ : ∃ y, inN r x = y := ⟨_, rfl⟩
  rw [hy]
  have H1 := Lib.hid (show bits .xor .u32 (r : Int) ((x : Int) % 4294967296) = ((r ^^^ x : Nat) : Int) by rw [show (x : Int) % 4294967296 = (x : Int) by omega]; exact h1)
  have HL := Lib.hid hlt
  have HY := Lib.hid (show upsN (8 - 0) (r ^^^ x) = y from hy)
  obtain ⟨z, hz⟩ : ∃ z, r ^^^ x = z := ⟨_, rfl⟩
  rw [hz] at H1 HL HY
  clear hc h1 hlt hy hx hz hr
  go_enter Try.func109, Try.ntmps109
  go_upto_region 3 with (fail)
  rw [H1.out]
  go_wp2
  go_loop [0, 9] (fun v i => ∃ (u k : Nat), v = .int .u32 (u : Int) ∧ i = .int .i64 (k : Int) ∧ k ≤ 8 ∧ u < 4294967296 ∧ upsN (8 - k) u = y) (fun _ i => 8 - (intOf i).toNat)
  case atStart => exact ⟨z, 0, rfl, rfl, by omega, HL.out, HY.out⟩
  case round =>
    obtain ⟨u, k, rfl, rfl, hk, hu, hr⟩ := hrel
    by_cases hlt : k < 8
    · have H2 := Lib.hid (up_at u w hu)
      have i1 : (k : Int) < 8 := by omega
      have HU := Lib.hid (upN_lt hu)
      have HR := Lib.hid (show upsN (8 - (k + 1)) (upN u) = y by
        rw [← hr, show 8 - k = (8 - (k + 1)) + 1 by omega]
        rfl)
      have HK := Lib.hid hlt
      clear hk hu hr hlt
      go_wp2_with (go_at_call 119; refine H2.out.mono ?_; rintro e w3 ⟨rfl, rfl⟩)
      go_round
      case rel => exact ⟨upN u, k + 1, rfl, by go_num, HK.out, HU.out, HR.out⟩
      case measure => have := HK.out; simp [intOf]; omega
    · obtain rfl : k = 8 := by omega
      have hr : u = y := hr
      subst hr
      clear hk hlt hu
      go_wp2
      go_ret
      exact ⟨rfl, rfl⟩
set_option maxRecDepth 100000 in
set_option maxHeartbeats 1000000 in
theorem more_at (r : Nat) (s : ByteArray) (w : World) (hr : r < 4294967296) (hs : s.size ≤ 10000000) :
    Calls Try.prog 97 #[.int .u32 (r : Int), .string s] w fun e w' => e = .returned (.int .u32 (moreN r s.data.toList : Int)) ∧ w' = w := by
  have hx : IntKind.u32.max = ((4294967295 : Nat) : Int) := by decide
  have H1 := Lib.hid (show bits .xor .u32 IntKind.u32.max (r : Int) = ((4294967295 ^^^ r : Nat) : Int) by rw [hx]; exact xor_u32 _ _ (by omega) hr)
  have HL := Lib.hid (show 4294967295 ^^^ r < 4294967296 from xor32_lt (by omega) hr)
  obtain ⟨y, hy⟩ : ∃ y, goesN (4294967295 ^^^ r) s.data.toList = y := ⟨_, rfl⟩
  have hm : moreN r s.data.toList = 4294967295 ^^^ y := by unfold moreN; rw [hy]
  rw [hm]
  have HY := Lib.hid (show goesN (4294967295 ^^^ r) (s.data.toList.drop 0) = y from hy)
  have HYL := Lib.hid (show y < 4294967296 by rw [← hy]; exact goesN_lt _ (xor32_lt (by omega) hr))
  have H3 := Lib.hid (show bits .xor .u32 IntKind.u32.max (y : Int) = ((4294967295 ^^^ y : Nat) : Int) by rw [hx]; exact xor_u32 _ _ (by omega) HYL.out)
  have HS := Lib.hid hs
  obtain ⟨z, hz⟩ : ∃ z, 4294967295 ^^^ r = z := ⟨_, rfl⟩
  rw [hz] at H1 HL HY
  obtain ⟨q, hq⟩ : ∃ z, 4294967295 ^^^ y = z := ⟨_, rfl⟩
  rw [hq] at H3 ⊢
  clear hx hr hs hy hm hz hq
  go_enter Try.func97, Try.ntmps97
  go_upto_region 3 with (fail)
  rw [H1.out]
  go_wp2
  go_loop [5, 11] (fun v i => ∃ (u k : Nat), v = .int .u32 (u : Int) ∧ i = .int .i64 (k : Int) ∧ k ≤ s.size ∧ u < 4294967296 ∧ goesN u (s.data.toList.drop k) = y) (fun _ i => s.size - (intOf i).toNat)
  case atStart => exact ⟨z, 0, rfl, rfl, by omega, HL.out, HY.out⟩
  case round =>
    obtain ⟨u, k, rfl, rfl, hk, hu, hr⟩ := hrel
    by_cases hlt : k < s.size
    · obtain ⟨c, hc, hd⟩ := bt_drop hlt
      have H2 := Lib.hid (in_at u c w hu)
      obtain ⟨j, hj⟩ : ∃ j : Int, (k : Int) = j := ⟨_, rfl⟩
      have p6 := eq_true (show 0 ≤ j by omega)
      have q6 := eq_true (show j < (s.size : Int) by omega)
      have hx6 := bt_at s j
      rw [show bt s j = (c.toNat : Int) by rw [← hj, ← hc]] at hx6
      have i2 : j < 10000000 := by have := HS.out; omega
      have i3 : 0 ≤ j := by omega
      have HU := Lib.hid (inN_lt c hu)
      have HR := Lib.hid (show goesN (inN u c.toNat) (s.data.toList.drop (k + 1)) = y by rw [← hr, hd]; rfl)
      have HK := Lib.hid hlt
      have HJ := Lib.hid hj
      rw [hj]
      clear hk hu hr hlt hc hd hj
      go_wp2_with (go_at_call 109; refine H2.out.mono ?_; rintro e w3 ⟨rfl, rfl⟩)
      go_round
      case rel => exact ⟨inN u c.toNat, k + 1, rfl, by have := HJ.out; rw [← this]; go_num, HK.out, HU.out, HR.out⟩
      case measure => have := HK.out; have := HJ.out; simp [intOf]; omega
    · obtain rfl : k = s.size := by omega
      have hr : u = y := by rw [← hr, List.drop_eq_nil_of_le (by rw [data_len]; exact Nat.le_refl _)]; rfl
      subst hr
      clear hk hlt hu
      go_upto_region 99 with (fail)
      rw [H3.out]
      go_wp2
      go_ret
      exact ⟨rfl, rfl⟩
theorem sum_at (s : ByteArray) (w : World) (hs : s.size ≤ 10000000) :
    Calls Try.prog 70 #[.string s] w fun e w' => e = .returned (.int .u32 (moreN 0 s.data.toList : Int)) ∧ w' = w := by
  have H := Lib.hid (more_at 0 s w (by omega) hs)
  go_enter Try.func70, Try.ntmps70
  go_wp2_with (go_at_call 97; refine H.out.mono ?_; rintro e w3 ⟨rfl, rfl⟩)
  go_ret
  exact ⟨rfl, rfl⟩
end Go.Proofs.Ytdlmkdldmiiaiaa.E
