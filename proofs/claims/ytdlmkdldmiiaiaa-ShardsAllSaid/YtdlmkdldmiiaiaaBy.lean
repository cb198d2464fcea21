/- Plain lemmas on the bytes of whole numbers: how many, that none begins another one, and what Go's bits on them are. No condition. -/
import Derived.Laws.BitsLemmas
import Derived.Laws.Bits64
import Derived.Lib.Strings
import Derived.OpenShut
import Derived.Test.YtdlmkdldmiiaiaaMa
namespace Go.Proofs.Ytdlmkdldmiiaiaa.By
open Go.RowKit
set_option linter.unusedVariables false
set_option linter.unusedSimpArgs false

/-! The bytes of a number. -/
def enc (u : Nat) : List UInt8 := if u < 128 then [UInt8.ofNat u] else UInt8.ofNat (u % 128 + 128) :: enc (u / 128)
termination_by u
decreasing_by omega

theorem enc_small {u : Nat} (h : u < 128) : enc u = [UInt8.ofNat u] := by rw [enc, if_pos h]
theorem enc_big {u : Nat} (h : 128 ≤ u) : enc u = UInt8.ofNat (u % 128 + 128) :: enc (u / 128) := by rw [enc, if_neg (by omega)]
theorem enc_pos (u : Nat) : 1 ≤ (enc u).length := by
  by_cases h : u < 128
  · rw [enc_small h]; simp
  · rw [enc_big (by omega)]; simp
theorem enc_ne (u : Nat) : enc u ≠ [] := fun h => by have := enc_pos u; rw [h] at this; simp at this
theorem enc_len (n : Nat) : ∀ u : Nat, u < 128 ^ (n + 1) → (enc u).length ≤ n + 1 := by
  induction n with
  | zero => intro u h; rw [enc_small (by simpa using h)]; simp
  | succ n ih =>
    intro u h
    by_cases h1 : u < 128
    · rw [enc_small h1]; simp
    · rw [enc_big (by omega), List.length_cons]
      have : u / 128 < 128 ^ (n + 1) := by rw [Nat.div_lt_iff_lt_mul (by omega)]; rw [Nat.pow_succ] at h; exact h
      have := ih _ this
      omega
theorem enc_len10 {u : Nat} (h : u < 18446744073709551616) : (enc u).length ≤ 10 := enc_len 9 u (by have : (128 : Nat) ^ (9 + 1) = 1180591620717411303424 := by decide
                                                                                                    omega)
theorem u8_inj {a b : Nat} (ha : a < 256) (hb : b < 256) (h : UInt8.ofNat a = UInt8.ofNat b) : a = b := by
  have := congrArg UInt8.toNat h
  simp only [UInt8.toNat_ofNat'] at this
  omega
theorem u8_toNat {a : Nat} (ha : a < 256) : (UInt8.ofNat a).toNat = a := by simp only [UInt8.toNat_ofNat']; omega

theorem enc_free : ∀ (u v : Nat) (r s : List UInt8), enc u ++ r = enc v ++ s → u = v ∧ r = s := by
  intro u
  induction u using Nat.strongRecOn with
  | ind u ih =>
    intro v r s h
    by_cases hu : u < 128 <;> by_cases hv : v < 128
    · rw [enc_small hu, enc_small hv] at h
      simp only [List.cons_append, List.nil_append, List.cons.injEq] at h
      exact ⟨u8_inj (by omega) (by omega) h.1, h.2⟩
    · rw [enc_small hu, enc_big (by omega : 128 ≤ v)] at h
      simp only [List.cons_append, List.nil_append, List.cons.injEq] at h
      have := u8_inj (by omega) (by omega) h.1
      omega
    · rw [enc_small hv, enc_big (by omega : 128 ≤ u)] at h
      simp only [List.cons_append, List.nil_append, List.cons.injEq] at h
      have := u8_inj (by omega) (by omega) h.1
      omega
    · rw [enc_big (by omega : 128 ≤ u), enc_big (by omega : 128 ≤ v)] at h
      simp only [List.cons_append, List.cons.injEq] at h
      have h1 := u8_inj (by omega) (by omega) h.1
      obtain ⟨h2, h3⟩ := ih (u / 128) (by omega) _ _ _ h.2
      exact ⟨by omega, h3⟩

theorem enc_inj {u v : Nat} (h : enc u = enc v) : u = v := (enc_free u v [] [] (by simpa using h)).1

theorem enc_cut {u v : Nat} {r : List UInt8} {j : Nat} (hj : j < (enc u).length) : (enc u).take j ≠ enc v ++ r := by
  intro h
  have h1 : enc u ++ [] = enc v ++ (r ++ (enc u).drop j) := by
    rw [← List.append_assoc, ← h, List.take_append_drop, List.append_nil]
  have h2 := (enc_free _ _ _ _ h1).2
  have h3 := congrArg List.length h2
  simp at h3
  omega

/-! Go's bits on numbers. -/
theorem wrap_u64 (n : Int) : IntKind.u64.wrap n = n % 18446744073709551616 := by simp [IntKind.wrap, IntKind.bits, IntKind.signed]
theorem wraps_u64 (n : Int) (h₀ : 0 ≤ n) (h₁ : n < 2 ^ 64) : IntKind.u64.wrap n = n := by rw [wrap_u64]; have : (2 : Int) ^ 64 = 18446744073709551616 := by decide
                                                                                          omega
theorem or128 : ∀ x : Fin 256, bits .or .u8 (x.val : Int) 128 = ((x.val % 128 + 128 : Nat) : Int) := by decide +kernel
theorem or_128 (x : Nat) : bits .or .u8 ((x : Int) % 256) 128 = ((x % 128 + 128 : Nat) : Int) := by
  have h := or128 ⟨x % 256, by omega⟩
  simp only at h
  rw [show ((x : Int) % 256) = ((x % 256 : Nat) : Int) by omega, h]
  congr 1
  omega
theorem p8 : (2 : Int) ^ 8 = 256 := by decide
theorem p64 : (2 : Int) ^ 64 = 18446744073709551616 := by decide
theorem and_127 (c : Int) (h0 : 0 ≤ c) (h1 : c ≤ 255) : bits .and .u8 c 127 = c % 128 :=
  bits_mask .u8 8 (by decide) wraps_u8 7 (by decide) c h0 (by rw [p8]; omega)
theorem and_1 (u : Nat) (h : u < 18446744073709551616) : bits .and .u64 (u : Int) 1 = (u : Int) % 2 :=
  bits_mask .u64 64 (by decide) wraps_u64 1 (by decide) u (by omega) (by rw [p64]; omega)
def shl (k : IntKind) (x n : Int) : Int := k.wrap (x * 2 ^ (min n.toNat k.bits))
/-- A number's next seven bits, laid above those that are there. -/
theorem lay (a c i : Nat) (hi : i ≤ 9) (ha : a < 128 ^ i) (h : a + c * 128 ^ i < 18446744073709551616) :
    bits .or .u64 (a : Int) (shl .u64 (c : Int) (7 * i : Nat)) = ((a + c * 128 ^ i : Nat) : Int) := by
  have e : (2 : Nat) ^ (7 * i) = 128 ^ i := by rw [Nat.pow_mul]
  have e' : (2 : Int) ^ (7 * i) = ((128 ^ i : Nat) : Int) := by rw [← e]; push_cast; rfl
  have hs : shl .u64 (c : Int) (7 * i : Nat) = ((c * 128 ^ i : Nat) : Int) := by
    unfold shl
    rw [Nat.min_eq_left (by simp [IntKind.bits]; omega), Int.toNat_natCast, e', wrap_u64, ← Int.natCast_mul]
    omega
  rw [hs]
  have hor := (bits_nat .u64 64 (by decide) wraps_u64 a (c * 128 ^ i) (by omega) (by omega)).2
  rw [hor, Nat.or_comm, Nat.mul_comm c, ← e, ← Nat.two_pow_add_eq_or_of_lt (by rw [e]; exact ha), Nat.add_comm]

def encB (u : Nat) : ByteArray := ⟨(enc u).toArray⟩
theorem encB_size (u : Nat) : (encB u).size = (enc u).length := by unfold encB ByteArray.size; simp
theorem p128 : (128 : Nat) ^ 10 = 1180591620717411303424 := by decide
theorem p128' : (128 : Nat) ^ 9 = 9223372036854775808 := by decide
theorem fits {acc i c : Nat} (ha : acc < 128 ^ i) (hi : i ≤ 9) (hc : c < 256) (hnb : ¬ (i = 9 ∧ 1 < c)) : acc + (c % 128) * 128 ^ i < 18446744073709551616 := by
  have hp := p128'
  by_cases h9 : i = 9
  · subst h9
    have : c ≤ 1 := by omega
    have : c % 128 * 128 ^ 9 ≤ 1 * 128 ^ 9 := Nat.mul_le_mul_right _ (by omega)
    omega
  · have h1 : (128 : Nat) ^ (i + 1) ≤ 128 ^ 9 := Nat.pow_le_pow_right (by decide) (by omega)
    have h2 : c % 128 * 128 ^ i ≤ 127 * 128 ^ i := Nat.mul_le_mul_right _ (by omega)
    rw [Nat.pow_succ] at h1
    omega
theorem grows {acc i c : Nat} (ha : acc < 128 ^ i) (hc : c < 128) : acc + c * 128 ^ i < 128 ^ i * 128 := by
  have h2 : c * 128 ^ i ≤ 127 * 128 ^ i := Nat.mul_le_mul_right _ (by omega)
  omega
theorem parts_of {acc i c v : Nat} (h : c = v % 128) : acc + c * 128 ^ i + v / 128 * 128 ^ (i + 1) = acc + v * 128 ^ i := by
  subst h
  have e : v / 128 * 128 ^ (i + 1) = (v / 128 * 128) * 128 ^ i := by rw [Nat.pow_succ, Nat.mul_comm (128 ^ i) 128, Nat.mul_assoc]
  rw [e, Nat.add_assoc, ← Nat.add_mul, Nat.mod_add_div' v 128]
theorem encB_inj {u v : Nat} (h : encB u = encB v) : u = v := by
  unfold encB at h
  exact enc_inj (by simpa using congrArg (fun s : ByteArray => s.data.toList) h)

def bt (s : ByteArray) (i : Int) : Int := if h : i.toNat < s.size then ((s[i.toNat]'h).toNat : Int) else 0
theorem bt_at (s : ByteArray) (i : Int) : ∀ h : i.toNat < s.size, ((s[i.toNat]'h).toNat : Int) = bt s i := fun h => by simp [bt, h]
theorem data_len (s : ByteArray) : s.data.toList.length = s.size := by simp
theorem bt_drop {s : ByteArray} {k : Nat} (h : k < s.size) : ∃ c : UInt8, bt s (k : Int) = (c.toNat : Int) ∧ s.data.toList.drop k = c :: s.data.toList.drop (k + 1) := by
  refine ⟨s[k]'h, (bt_at s (k : Int) (by simpa using h)).symm, ?_⟩
  have := List.drop_eq_getElem_cons (l := s.data.toList) (i := k) (by rw [data_len]; exact h)
  rw [this]
  rfl
theorem lay2 (a x i : Nat) (hi : i ≤ 9) (hx : x < 256) (ha : a < 128 ^ i) (h : a + x % 128 * 128 ^ i < 18446744073709551616) :
    bits .or .u64 (a : Int) (IntKind.u64.wrap (IntKind.u64.wrap (bits .and .u8 (x : Int) 127) * 2 ^ (7 * i))) = ((a + x % 128 * 128 ^ i : Nat) : Int) := by
  have e1 : IntKind.u64.wrap (bits .and .u8 (x : Int) 127) = ((x % 128 : Nat) : Int) := by
    rw [and_127 _ (by omega) (by omega), wrap_u64]
    omega
  have := lay a (x % 128) i hi ha h
  unfold shl at this
  rw [e1, ← this, Nat.min_eq_left (by simp [IntKind.bits]; omega), Int.toNat_natCast]
/-! A number that stands ahead of bytes. -/
/-- The number, and of how many bytes it is. -/
def getGo : List UInt8 → Nat → Nat → Option (Nat × Nat)
  | [], _, _ => none
  | c :: r, i, acc => if i = 10 then none else if i = 9 ∧ 1 < c.toNat then none else
    if c.toNat < 128 then (if 0 < c.toNat ∨ i = 0 then some (acc + c.toNat % 128 * 128 ^ i, i + 1) else none) else getGo r (i + 1) (acc + c.toNat % 128 * 128 ^ i)
theorem getGo_nil (i acc : Nat) : getGo [] i acc = none := rfl
theorem getGo_10 (l : List UInt8) (acc : Nat) : getGo l 10 acc = none := by cases l <;> simp [getGo]
def getC (s : ByteArray) (a : Int) : Int × Int × Bool :=
  if a < 0 ∨ (s.size : Int) < a then (0, 0, false) else
  match getGo (s.data.toList.drop a.toNat) 0 0 with
  | some (u, k) => if u ≤ 9223372036854775807 then ((u : Int), a + (k : Int), true) else (0, 0, false)
  | none => (0, 0, false)
def putC (n : Int) : ByteArray := if n < 0 then ⟨#[]⟩ else encB n.toNat
theorem getGo_bound : ∀ (l : List UInt8) (i acc u k : Nat), i ≤ 10 → getGo l i acc = some (u, k) → i < k ∧ k ≤ i + l.length ∧ k ≤ 10 := by
  intro l
  induction l with
  | nil => intro i acc u k _ h; cases h
  | cons c r ih =>
    intro i acc u k hi h
    unfold getGo at h
    split at h
    · cases h
    · split at h
      · cases h
      · split at h
        · split at h
          · cases h
            simp
            omega
          · cases h
        · obtain ⟨h1, h2, h3⟩ := ih (i + 1) _ u k (by omega) h
          simp
          omega
theorem getC_bound {s : ByteArray} {a n x : Int} (h : getC s a = (n, x, true)) : 0 ≤ n ∧ n ≤ 9223372036854775807 ∧ a < x ∧ x ≤ s.size ∧ 0 ≤ a := by
  unfold getC at h
  split at h
  · cases h
  · split at h
    · rename_i hg
      split at h
      · cases h
        obtain ⟨h1, h2, h3⟩ := getGo_bound _ _ _ _ _ (by omega) hg
        rw [List.length_drop] at h2
        have : s.data.toList.length = s.size := by simp
        omega
      · cases h
    · cases h
end Go.Proofs.Ytdlmkdldmiiaiaa.By
