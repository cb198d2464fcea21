/- Plain lemmas on the bytes of whole numbers: how many, that none begins another one, and what Go's bits on them are. No condition. -/
import Derived.Laws.BitsLemmas
import Derived.Laws.Bits64
import Derived.Lib.Strings
import Derived.OpenShut
import Derived.Test.YtnbdplhbkennfaaWMore
namespace Go.Proofs.Ytnbdplhbkennfaa.Ma
open Go.RowKit Go.Proofs.YtnbdplhbkennfaaW.PrintWords Go.Proofs.YtnbdplhbkennfaaW.PrintLast Go.Proofs.YtnbdplhbkennfaaW.PrintMore

/-! The bytes of a number. -/
def enc (u : Nat) : List UInt8 := if u < 128 then [UInt8.ofNat u] else UInt8.ofNat (u % 128 + 128) :: enc (u / 128)
termination_by u
decreasing_by omega

theorem enc_small {u : Nat} (h : u < 128) : enc u = [UInt8.ofNat u] := by rw [enc, if_pos h]
theorem enc_big {u : Nat} (h : 128 ≤ u) : enc u = UInt8.ofNat (u % 128 + 128) :: enc (u / 128) := by rw [enc, if_neg (by omega)]
theorem enc_pos (u : Nat) : 1 ≤ (enc u).length := by
  by_cases h : u < 128
  · rw [enc_small h]; simp
  · rw [enc_big (by omega)]; simp
theorem enc_ne (u : Nat) : enc u ≠ [] := fun h => by have := enc_pos u; rw [h] at this; simp at this
theorem enc_len (n : Nat) : ∀ u : Nat, u < 128 ^ (n + 1) → (enc u).length ≤ n + 1 := by
  induction n with
  | zero => intro u h; rw [enc_small (by simpa using h)]; simp
  | succ n ih =>
    intro u h
    by_cases h1 : u < 128
    · rw [enc_small h1]; simp
    · rw [enc_big (by omega), List.length_cons]
      have : u / 128 < 128 ^ (n + 1) := by rw [Nat.div_lt_iff_lt_mul (by omega)]; rw [Nat.pow_succ] at h; exact h
      have := ih _ this
      omega
theorem enc_len10 {u : Nat} (h : u < 18446744073709551616) : (enc u).length ≤ 10 := enc_len 9 u (by have : (128 : Nat) ^ (9 + 1) = 1180591620717411303424 := by decide
                                                                                                    omega)
theorem u8_inj {a b : Nat} (ha : a < 256) (hb : b < 256) (h : UInt8.ofNat a = UInt8.ofNat b) : a = b := by
  have := congrArg UInt8.toNat h
  simp only [UInt8.toNat_ofNat'] at this
  omega
theorem u8_toNat {a : Nat} (ha : a < 256) : (UInt8.ofNat a).toNat = a := by simp only [UInt8.toNat_ofNat']; omega

theorem enc_free : ∀ (u v : Nat) (r s : List UInt8), enc u ++ r = enc v ++ s → u = v ∧ r = s := by
  intro u
  induction u using Nat.strongRecOn with
  | ind u ih =>
    intro v r s h
    by_cases hu : u < 128 <;> by_cases hv : v < 128
    · rw [enc_small hu, enc_small hv] at h
      simp only [List.cons_append, List.nil_append, List.cons.injEq] at h
      exact ⟨u8_inj (by omega) (by omega) h.1, h.2⟩
    · rw [enc_small hu, enc_big (by omega : 128 ≤ v)] at h
      simp only [List.cons_append, List.nil_append, List.cons.injEq] at h
      have := u8_inj (by omega) (by omega) h.1
      omega
    · rw [enc_small hv, enc_big (by omega : 128 ≤ u)] at h
      simp only [List.cons_append, List.nil_append, List.cons.injEq] at h
      have := u8_inj (by omega) (by omega) h.1
      omega
    · rw [enc_big (by omega : 128 ≤ u), enc_big (by omega : 128 ≤ v)] at h
      simp only [List.cons_append, List.cons.injEq] at h
      have h1 := u8_inj (by omega) (by omega) h.1
      obtain ⟨h2, h3⟩ := ih (u / 128) (by omega) _ _ _ h.2
      exact ⟨by omega, h3⟩

theorem enc_inj {u v : Nat} (h : enc u = enc v) : u = v := (enc_free u v [] [] (by simpa using h)).1

theorem enc_cut {u v : Nat} {r : List UInt8} {j : Nat} (hj : j < (enc u).length) : (enc u).take j ≠ enc v ++ r := by
  intro h
  have h1 : enc u ++ [] = enc v ++ (r ++ (enc u).drop j) := by
    rw [← List.append_assoc, ← h, List.take_append_drop, List.append_nil]
  have h2 := (enc_free _ _ _ _ h1).2
  have h3 := congrArg List.length h2
  simp at h3
  omega

/-! The number of an int. -/
def zig (n : Int) : Nat := (if 0 ≤ n then 2 * n else -2 * n - 1).toNat
def zag (u : Nat) : Int := if u % 2 = 0 then (u / 2 : Nat) else -((u / 2 : Nat) : Int) - 1
theorem zag_zig (n : Int) : zag (zig n) = n := by unfold zag zig; split <;> split <;> omega
theorem zig_zag (u : Nat) : zig (zag u) = u := by unfold zag zig; split <;> split <;> omega
theorem zig_lt {n : Int} (h0 : -9223372036854775808 ≤ n) (h1 : n ≤ 9223372036854775807) : zig n < 18446744073709551616 := by unfold zig; split <;> omega
theorem zig_inj {n m : Int} (h : zig n = zig m) : n = m := by rw [← zag_zig n, ← zag_zig m, h]

/-! Go's bits on numbers. -/
theorem wrap_u64 (n : Int) : IntKind.u64.wrap n = n % 18446744073709551616 := by simp [IntKind.wrap, IntKind.bits, IntKind.signed]
theorem wraps_u64 (n : Int) (h₀ : 0 ≤ n) (h₁ : n < 2 ^ 64) : IntKind.u64.wrap n = n := by rw [wrap_u64]; have : (2 : Int) ^ 64 = 18446744073709551616 := by decide
                                                                                          omega
theorem or128 : ∀ x : Fin 256, bits .or .u8 (x.val : Int) 128 = ((x.val % 128 + 128 : Nat) : Int) := by decide +kernel
theorem or_128 (x : Nat) : bits .or .u8 ((x : Int) % 256) 128 = ((x % 128 + 128 : Nat) : Int) := by
  have h := or128 ⟨x % 256, by omega⟩
  simp only at h
  rw [show ((x : Int) % 256) = ((x % 256 : Nat) : Int) by omega, h]
  congr 1
  omega
theorem p8 : (2 : Int) ^ 8 = 256 := by decide
theorem p64 : (2 : Int) ^ 64 = 18446744073709551616 := by decide
theorem and_127 (c : Int) (h0 : 0 ≤ c) (h1 : c ≤ 255) : bits .and .u8 c 127 = c % 128 :=
  bits_mask .u8 8 (by decide) wraps_u8 7 (by decide) c h0 (by rw [p8]; omega)
theorem and_1 (u : Nat) (h : u < 18446744073709551616) : bits .and .u64 (u : Int) 1 = (u : Int) % 2 :=
  bits_mask .u64 64 (by decide) wraps_u64 1 (by decide) u (by omega) (by rw [p64]; omega)
/-- A number's next seven bits, laid above those that are there. -/
theorem lay (a c i : Nat) (hi : i ≤ 9) (ha : a < 128 ^ i) (h : a + c * 128 ^ i < 18446744073709551616) :
    bits .or .u64 (a : Int) (shl .u64 (c : Int) (7 * i : Nat)) = ((a + c * 128 ^ i : Nat) : Int) := by
  have e : (2 : Nat) ^ (7 * i) = 128 ^ i := by rw [Nat.pow_mul]
  have e' : (2 : Int) ^ (7 * i) = ((128 ^ i : Nat) : Int) := by rw [← e]; push_cast; rfl
  have hs : shl .u64 (c : Int) (7 * i : Nat) = ((c * 128 ^ i : Nat) : Int) := by
    unfold shl
    rw [Nat.min_eq_left (by simp [IntKind.bits]; omega), Int.toNat_natCast, e', wrap_u64, ← Int.natCast_mul]
    omega
  rw [hs]
  have hor := (bits_nat .u64 64 (by decide) wraps_u64 a (c * 128 ^ i) (by omega) (by omega)).2
  rw [hor, Nat.or_comm, Nat.mul_comm c, ← e, ← Nat.two_pow_add_eq_or_of_lt (by rw [e]; exact ha), Nat.add_comm]

theorem xor_ones (a : Nat) (h : a < 18446744073709551616) : bits .xor .u64 (a : Int) 18446744073709551615 = ((18446744073709551615 - a : Nat) : Int) := by
  rw [show (18446744073709551615 : Int) = ((18446744073709551615 : Nat) : Int) by rfl, bits_xor_u64_nat _ _ h (by omega)]
  congr 1
  have h1 : a ^^^ 18446744073709551615 = (BitVec.ofNat 64 a ^^^ BitVec.allOnes 64).toNat := by
    rw [BitVec.toNat_xor, BitVec.toNat_ofNat, BitVec.toNat_allOnes, Nat.mod_eq_of_lt h]
  rw [h1, BitVec.xor_allOnes, BitVec.toNat_not, BitVec.toNat_ofNat, Nat.mod_eq_of_lt h]
theorem xor_zero (a : Nat) (h : a < 18446744073709551616) : bits .xor .u64 (a : Int) 0 = (a : Int) := by
  rw [show (0 : Int) = ((0 : Nat) : Int) by rfl, bits_xor_u64_nat _ _ h (by omega)]
  simp
theorem zig_bits (n : Int) (h0 : -9223372036854775808 ≤ n) (h1 : n ≤ 9223372036854775807) :
    bits .xor .u64 (IntKind.u64.wrap ((IntKind.u64.wrap n) * 2)) (IntKind.u64.wrap (n / 9223372036854775808)) = (zig n : Int) := by
  simp only [wrap_u64]
  by_cases h : 0 ≤ n
  · rw [show n / 9223372036854775808 % 18446744073709551616 = 0 by omega, show n % 18446744073709551616 * 2 % 18446744073709551616 = ((2 * n.toNat : Nat) : Int) by omega, xor_zero _ (by omega)]
    unfold zig; rw [if_pos h]; omega
  · rw [show n / 9223372036854775808 % 18446744073709551616 = 18446744073709551615 by omega, show n % 18446744073709551616 * 2 % 18446744073709551616 = ((18446744073709551616 + 2 * n).toNat : Int) by omega, xor_ones _ (by omega)]
    unfold zig; rw [if_neg h]; omega
theorem xor_i64 (x y : Int) : bits .xor .i64 x y = IntKind.i64.wrap ((BitVec.ofInt 64 x ^^^ BitVec.ofInt 64 y).toNat : Int) := rfl
theorem xor_neg1 (a : Int) (h0 : 0 ≤ a) (h1 : a ≤ 9223372036854775807) : bits .xor .i64 a (-1) = -a - 1 := by
  obtain ⟨m, rfl⟩ := Int.eq_ofNat_of_zero_le h0
  rw [xor_i64, show (BitVec.ofInt 64 (-1)) = BitVec.allOnes 64 by decide, BitVec.ofInt_natCast]
  rw [BitVec.xor_allOnes, BitVec.toNat_not, BitVec.toNat_ofNat, IntKind.wrap_i64]
  omega
theorem xor_0 (a : Int) (h0 : 0 ≤ a) (h1 : a ≤ 9223372036854775807) : bits .xor .i64 a 0 = a := by
  obtain ⟨m, rfl⟩ := Int.eq_ofNat_of_zero_le h0
  rw [xor_i64, show (BitVec.ofInt 64 0) = 0#64 by decide, BitVec.ofInt_natCast]
  rw [BitVec.xor_zero, BitVec.toNat_ofNat, IntKind.wrap_i64]
  omega
theorem zag_bits (u : Nat) (h : u < 18446744073709551616) :
    bits .xor .i64 (wrap64 ((u : Int) / 2)) (wrap64 (-(wrap64 (bits .and .u64 (u : Int) 1)))) = zag u := by
  rw [and_1 u h, show wrap64 ((u : Int) / 2) = (u : Int) / 2 by unfold wrap64; omega]
  unfold zag
  by_cases e : u % 2 = 0
  · rw [if_pos e, show wrap64 (-(wrap64 ((u : Int) % 2))) = 0 by unfold wrap64; omega, xor_0 _ (by omega) (by omega)]
    omega
  · rw [if_neg e, show wrap64 (-(wrap64 ((u : Int) % 2))) = -1 by unfold wrap64; omega, xor_neg1 _ (by omega) (by omega)]
    omega

/-! What stands at a place. -/
def encB (u : Nat) : ByteArray := ⟨(enc u).toArray⟩
theorem encB_toList (u : Nat) : (encB u).toList = enc u := by rw [Lib.toList_data]; rfl
theorem encB_size (u : Nat) : (encB u).size = (enc u).length := by unfold encB ByteArray.size; simp
theorem encB_inj {u v : Nat} (h : encB u = encB v) : u = v := enc_inj (by rw [← encB_toList, h, encB_toList])
theorem p128 : (128 : Nat) ^ 10 = 1180591620717411303424 := by decide
theorem p128' : (128 : Nat) ^ 9 = 9223372036854775808 := by decide
theorem byte_at (s : ByteArray) (i : Nat) (h : i < s.size) : ∃ c : Nat, c < 256 ∧ bt s (i : Int) = c ∧ s.data.toList.drop i = UInt8.ofNat c :: s.data.toList.drop (i + 1) := by
  refine ⟨(s[i]'h).toNat, UInt8.toNat_lt _, (bt_at s i (by simpa using h)).symm, ?_⟩
  rw [UInt8.ofNat_toNat]
  have := List.drop_eq_getElem_cons (l := s.data.toList) (i := i) (by rw [data_length]; exact h)
  rw [this]
  rfl
theorem fits {acc i c : Nat} (ha : acc < 128 ^ i) (hi : i ≤ 9) (hc : c < 256) (hnb : ¬ (i = 9 ∧ 1 < c)) : acc + (c % 128) * 128 ^ i < 18446744073709551616 := by
  have hp := p128'
  by_cases h9 : i = 9
  · subst h9
    have : c ≤ 1 := by omega
    have : c % 128 * 128 ^ 9 ≤ 1 * 128 ^ 9 := Nat.mul_le_mul_right _ (by omega)
    omega
  · have h1 : (128 : Nat) ^ (i + 1) ≤ 128 ^ 9 := Nat.pow_le_pow_right (by decide) (by omega)
    have h2 : c % 128 * 128 ^ i ≤ 127 * 128 ^ i := Nat.mul_le_mul_right _ (by omega)
    rw [Nat.pow_succ] at h1
    omega
theorem grows {acc i c : Nat} (ha : acc < 128 ^ i) (hc : c < 128) : acc + c * 128 ^ i < 128 ^ i * 128 := by
  have h2 : c * 128 ^ i ≤ 127 * 128 ^ i := Nat.mul_le_mul_right _ (by omega)
  omega
theorem parts_of {acc i c v : Nat} (h : c = v % 128) : acc + c * 128 ^ i + v / 128 * 128 ^ (i + 1) = acc + v * 128 ^ i := by
  subst h
  have e : v / 128 * 128 ^ (i + 1) = (v / 128 * 128) * 128 ^ i := by rw [Nat.pow_succ, Nat.mul_comm (128 ^ i) 128, Nat.mul_assoc]
  rw [e, Nat.add_assoc, ← Nat.add_mul, Nat.mod_add_div' v 128]
def StandsAt (s : ByteArray) (a : Int) (u : Nat) (r : List UInt8) : Prop := 0 ≤ a ∧ a ≤ s.size ∧ u < 18446744073709551616 ∧ s.data.toList.drop a.toNat = enc u ++ r
theorem StandsAt.one {s : ByteArray} {a : Int} {u v : Nat} {r q : List UInt8} (h : StandsAt s a u r) (g : StandsAt s a v q) : u = v ∧ r = q := enc_free _ _ _ _ (h.2.2.2.symm.trans g.2.2.2)
theorem StandsAt.len {s : ByteArray} {a : Int} {u : Nat} {r : List UInt8} (h : StandsAt s a u r) : (s.size : Int) - r.length = a + (enc u).length := by
  obtain ⟨h0, h1, _, h⟩ := h
  have := congrArg List.length h
  rw [List.length_drop, data_length, List.length_append] at this
  omega
open Classical in
noncomputable def getIntR (s : ByteArray) (a : Int) : Int × Int × Bool :=
  if h : ∃ p : Nat × List UInt8, StandsAt s a p.1 p.2 then (zag h.choose.1, (s.size : Int) - h.choose.2.length, true) else (0, 0, false)
open Classical in
noncomputable def getR (s : ByteArray) (a : Int) : Int × Int × Bool :=
  if h : ∃ p : Nat × List UInt8, StandsAt s a p.1 p.2 then (if h.choose.1 ≤ 9223372036854775807 then ((h.choose.1 : Int), (s.size : Int) - h.choose.2.length, true) else (0, 0, false)) else (0, 0, false)
theorem getIntR_yes {s : ByteArray} {a : Int} {u : Nat} {r : List UInt8} (h : StandsAt s a u r) : getIntR s a = (zag u, (s.size : Int) - r.length, true) := by
  unfold getIntR
  have hx : ∃ p : Nat × List UInt8, StandsAt s a p.1 p.2 := ⟨(u, r), h⟩
  rw [dif_pos hx]
  obtain ⟨e1, e2⟩ := hx.choose_spec.one h
  rw [e1, e2]
theorem getIntR_no {s : ByteArray} {a : Int} (h : ¬ ∃ u r, StandsAt s a u r) : getIntR s a = (0, 0, false) := by
  unfold getIntR
  rw [dif_neg (fun ⟨p, hp⟩ => h ⟨_, _, hp⟩)]
theorem getR_yes {s : ByteArray} {a : Int} {u : Nat} {r : List UInt8} (h : StandsAt s a u r) (hu : u ≤ 9223372036854775807) : getR s a = ((u : Int), (s.size : Int) - r.length, true) := by
  unfold getR
  have hx : ∃ p : Nat × List UInt8, StandsAt s a p.1 p.2 := ⟨(u, r), h⟩
  rw [dif_pos hx]
  obtain ⟨e1, e2⟩ := hx.choose_spec.one h
  rw [e1, e2, if_pos hu]
theorem getR_big {s : ByteArray} {a : Int} {u : Nat} {r : List UInt8} (h : StandsAt s a u r) (hu : 9223372036854775807 < u) : getR s a = (0, 0, false) := by
  unfold getR
  have hx : ∃ p : Nat × List UInt8, StandsAt s a p.1 p.2 := ⟨(u, r), h⟩
  rw [dif_pos hx]
  obtain ⟨e1, e2⟩ := hx.choose_spec.one h
  rw [e1, if_neg (by omega)]
theorem getR_no {s : ByteArray} {a : Int} (h : ¬ ∃ u r, StandsAt s a u r) : getR s a = (0, 0, false) := by
  unfold getR
  rw [dif_neg (fun ⟨p, hp⟩ => h ⟨_, _, hp⟩)]

/-! For the reference. -/
theorem encB_small {u : Nat} (h : u < 128) : encB u = strOfNums [(u : Int)] := by
  unfold encB strOfNums
  rw [enc_small h]
  rfl
theorem encB_big {u : Nat} (h : 128 ≤ u) : encB u = strOfNums [((u % 128 + 128 : Nat) : Int)] ++ encB (u / 128) := by
  apply ByteArray.ext
  rw [ByteArray.data_append]
  apply Array.toList_inj.1
  rw [Array.toList_append]
  show enc u = [UInt8.ofNat (((u % 128 + 128 : Nat) : Int)).toNat] ++ enc (u / 128)
  rw [enc_big h]
  rfl
def valL (l : List UInt8) : Nat := l.foldr (fun c n => c.toNat % 128 + 128 * n) 0
theorem valL_nil : valL [] = 0 := rfl
theorem valL_cons (c : UInt8) (l : List UInt8) : valL (c :: l) = c.toNat % 128 + 128 * valL l := rfl
theorem valL_enc (u : Nat) : valL (enc u) = u := by
  induction u using Nat.strongRecOn with
  | ind u ih =>
    by_cases h : u < 128
    · rw [enc_small h, valL_cons, valL_nil, u8_toNat (by omega)]
      omega
    · rw [enc_big (by omega), valL_cons, ih _ (by omega), u8_toNat (by omega)]
      omega
theorem enc_last (n : Nat) : ∀ u : Nat, (enc u).length = n + 1 → ∃ c, (enc u)[n]? = some c ∧ c.toNat = u / 128 ^ n := by
  induction n with
  | zero =>
    intro u h
    by_cases h1 : u < 128
    · rw [enc_small h1]
      exact ⟨_, rfl, by rw [u8_toNat (by omega)]; simp⟩
    · rw [enc_big (by omega), List.length_cons] at h
      have := enc_pos (u / 128)
      omega
  | succ n ih =>
    intro u h
    by_cases h1 : u < 128
    · rw [enc_small h1] at h
      simp at h
    · rw [enc_big (by omega), List.length_cons] at h
      obtain ⟨c, h2, h3⟩ := ih (u / 128) (by omega)
      rw [enc_big (by omega)]
      exact ⟨c, by simpa using h2, by rw [h3, Nat.pow_succ, Nat.mul_comm, Nat.div_div_eq_div_mul]⟩
theorem extract_toList (s : ByteArray) (i j : Nat) : (s.extract i j).toList = (s.data.toList.drop i).take (j - i) := by
  rw [Lib.toList_data, ByteArray.data_extract, Array.toList_extract]
theorem tmod_nat (c m : Nat) : Int.tmod (c : Int) (m : Int) = ((c % m : Nat) : Int) := by rw [Int.tmod_eq_emod_of_nonneg (by omega)]; rfl
theorem tdiv_128 (u : Nat) : Int.tdiv (u : Int) 128 = ((u / 128 : Nat) : Int) := by rw [Int.tdiv_eq_ediv_of_nonneg (by omega)]; omega
theorem tmod_128 (u : Nat) : Int.tmod (u : Int) 128 = ((u % 128 : Nat) : Int) := by rw [Int.tmod_eq_emod_of_nonneg (by omega)]; omega

/-- The bytes of a number that may be, else nothing. -/
def encB' (u : Nat) : ByteArray := if u < 18446744073709551616 then encB u else ⟨#[]⟩
theorem encB'_of {u : Nat} (h : u < 18446744073709551616) : encB' u = encB u := if_pos h
theorem encB'_size (u : Nat) : (encB' u).size ≤ 10 := by
  unfold encB'
  split
  · rename_i h
    rw [encB_size]
    exact enc_len10 h
  · show (0 : Nat) ≤ 10
    omega

end Go.Proofs.Ytnbdplhbkennfaa.Ma
