/- The register of 32 bits, into which bytes go: that four bytes side by side, turned over, lead to another register. No condition. -/
import Derived.Test.YtdlmkdldmiiaiaaBy
namespace Go.Proofs.Ytdlmkdldmiiaiaa.Crc
set_option linter.unusedVariables false
set_option linter.unusedSimpArgs false
def upN (r : Nat) : Nat := (r / 2) ^^^ (if r % 2 = 1 then 3988292384 else 0)
def upsN : Nat → Nat → Nat
  | 0, r => r
  | k + 1, r => upsN k (upN r)
def inN (r c : Nat) : Nat := upsN 8 (r ^^^ c)
def goesN (r : Nat) (l : List UInt8) : Nat := l.foldl (fun r c => inN r c.toNat) r
theorem xor32_lt {a b : Nat} (ha : a < 4294967296) (hb : b < 4294967296) : a ^^^ b < 4294967296 := Nat.xor_lt_two_pow (n := 32) (by omega) (by omega)
theorem xor_half (a b : Nat) : (a ^^^ b) / 2 = a / 2 ^^^ b / 2 := by
  apply Nat.eq_of_testBit_eq
  intro i
  rw [Nat.testBit_div_two, Nat.testBit_xor, Nat.testBit_xor, Nat.testBit_div_two, Nat.testBit_div_two]
theorem xor_four (a b c d : Nat) : (a ^^^ b) ^^^ (c ^^^ d) = (a ^^^ c) ^^^ (b ^^^ d) := by
  rw [Nat.xor_assoc, ← Nat.xor_assoc b c d, Nat.xor_comm b c, Nat.xor_assoc c b d, ← Nat.xor_assoc]
theorem upN_xor (a b : Nat) : upN (a ^^^ b) = upN a ^^^ upN b := by
  unfold upN
  rw [xor_half, xor_four]
  congr 1
  have hx : (a ^^^ b) % 2 = (a % 2 + b % 2) % 2 := by
    have h := Nat.testBit_xor a b 0
    simp only [Nat.testBit_zero] at h
    rcases Nat.mod_two_eq_zero_or_one a with ha | ha <;> rcases Nat.mod_two_eq_zero_or_one b with hb | hb <;> rcases Nat.mod_two_eq_zero_or_one (a ^^^ b) with hc | hc <;> simp [ha, hb, hc] at h <;> omega
  rcases Nat.mod_two_eq_zero_or_one a with ha | ha <;> rcases Nat.mod_two_eq_zero_or_one b with hb | hb
  · rw [if_neg (by omega), if_neg (by omega), if_neg (by omega)]; rfl
  · rw [if_pos (by omega), if_neg (by omega), if_pos (by omega), Nat.zero_xor]
  · rw [if_pos (by omega), if_pos (by omega), if_neg (by omega), Nat.xor_zero]
  · rw [if_neg (by omega), if_pos (by omega), if_pos (by omega), Nat.xor_self]
theorem upsN_xor : ∀ (k a b : Nat), upsN k (a ^^^ b) = upsN k a ^^^ upsN k b
  | 0, a, b => rfl
  | k + 1, a, b => by
    show upsN k (upN (a ^^^ b)) = upsN k (upN a) ^^^ upsN k (upN b)
    rw [upN_xor, upsN_xor k]
theorem upsN_add : ∀ (j k r : Nat), upsN (j + k) r = upsN k (upsN j r)
  | 0, k, r => by rw [Nat.zero_add]; rfl
  | j + 1, k, r => by
    rw [show j + 1 + k = (j + k) + 1 by omega]
    show upsN (j + k) (upN r) = upsN k (upsN j (upN r))
    rw [upsN_add j k]
theorem upN_lt {r : Nat} (h : r < 4294967296) : upN r < 4294967296 := by
  unfold upN
  exact xor32_lt (by omega) (by split <;> omega)
theorem upsN_lt : ∀ (k : Nat) {r : Nat}, r < 4294967296 → upsN k r < 4294967296
  | 0, _, h => h
  | k + 1, _, h => upsN_lt k (upN_lt h)
theorem inN_lt {r c : Nat} (h : r < 4294967296) (hc : c < 4294967296) : inN r c < 4294967296 := upsN_lt 8 (xor32_lt h hc)
theorem goesN_lt : ∀ (l : List UInt8) {r : Nat}, r < 4294967296 → goesN r l < 4294967296
  | [], _, h => h
  | c :: l, _, h => goesN_lt l (inN_lt h (by have := c.toNat_lt; omega))
theorem xor_zero_eq {a b : Nat} (h : a ^^^ b = 0) : a = b := by
  have : (a ^^^ b) ^^^ b = b := by rw [h, Nat.zero_xor]
  rwa [Nat.xor_assoc, Nat.xor_self, Nat.xor_zero] at this
theorem upN_zero {r : Nat} (h : r < 4294967296) (hz : upN r = 0) : r = 0 := by
  unfold upN at hz
  have he := xor_zero_eq hz
  split at he <;> omega
theorem upN_inj {a b : Nat} (ha : a < 4294967296) (hb : b < 4294967296) (h : upN a = upN b) : a = b := by
  apply xor_zero_eq
  apply upN_zero (xor32_lt ha hb)
  rw [upN_xor, h, Nat.xor_self]
theorem upsN_inj : ∀ (k : Nat) {a b : Nat}, a < 4294967296 → b < 4294967296 → upsN k a = upsN k b → a = b
  | 0, _, _, _, _, h => h
  | k + 1, _, _, ha, hb, h => upN_inj ha hb (upsN_inj k (upN_lt ha) (upN_lt hb) h)
theorem xor_left {a b c : Nat} (h : a ^^^ c = b ^^^ c) : a = b := by
  have : (a ^^^ c) ^^^ c = (b ^^^ c) ^^^ c := by rw [h]
  rwa [Nat.xor_assoc, Nat.xor_assoc, Nat.xor_self, Nat.xor_zero, Nat.xor_zero] at this
theorem inN_inj {a b c : Nat} (ha : a < 4294967296) (hb : b < 4294967296) (hc : c < 4294967296) (h : inN a c = inN b c) : a = b :=
  xor_left (upsN_inj 8 (xor32_lt ha hc) (xor32_lt hb hc) h)
theorem goesN_inj : ∀ (l : List UInt8) {a b : Nat}, a < 4294967296 → b < 4294967296 → goesN a l = goesN b l → a = b
  | [], _, _, _, _, h => h
  | c :: l, _, _, ha, hb, h => by
    have hc : c.toNat < 4294967296 := by have := c.toNat_lt; omega
    exact inN_inj ha hb hc (goesN_inj l (inN_lt ha hc) (inN_lt hb hc) h)
theorem goesN_append (r : Nat) (l m : List UInt8) : goesN r (l ++ m) = goesN (goesN r l) m := by unfold goesN; rw [List.foldl_append]
/-- So many places up, nothing falls out. -/
theorem upsN_shift : ∀ (k c : Nat), upsN k (c * 2 ^ k) = c
  | 0, c => by rw [Nat.pow_zero, Nat.mul_one]; rfl
  | k + 1, c => by
    show upsN k (upN (c * 2 ^ (k + 1))) = c
    have e : c * 2 ^ (k + 1) = 2 * (c * 2 ^ k) := by rw [Nat.pow_succ]; rw [← Nat.mul_assoc, Nat.mul_comm]
    have : upN (c * 2 ^ (k + 1)) = c * 2 ^ k := by
      unfold upN
      rw [e, if_neg (by omega), Nat.xor_zero]
      omega
    rw [this, upsN_shift k c]
/-- Four bytes, the lowest first. -/
def four (a b c d : Nat) : Nat := a ^^^ (b ^^^ (c ^^^ d * 2 ^ 8) * 2 ^ 8) * 2 ^ 8
theorem ups8 (y k : Nat) : upsN 8 y ^^^ k = upsN 8 (y ^^^ k * 2 ^ 8) := by
  have h := upsN_shift 8 k
  rw [upsN_xor, h]
theorem goes_four (r : Nat) (a b c d : UInt8) : goesN r [a, b, c, d] = upsN 32 (r ^^^ four a.toNat b.toNat c.toNat d.toNat) := by
  show upsN 8 (upsN 8 (upsN 8 (upsN 8 (r ^^^ a.toNat) ^^^ b.toNat) ^^^ c.toNat) ^^^ d.toNat) = _
  rw [ups8 _ d.toNat, Nat.xor_assoc (upsN 8 (upsN 8 (r ^^^ a.toNat) ^^^ b.toNat)), ups8 _ (c.toNat ^^^ _), Nat.xor_assoc (upsN 8 (r ^^^ a.toNat)), ups8 _ (b.toNat ^^^ _), Nat.xor_assoc r, show (32 : Nat) = 8 + (8 + (8 + 8)) from rfl, upsN_add, upsN_add, upsN_add]
  rfl
theorem xor_add {a : Nat} (ha : a < 256) (k : Nat) : a ^^^ k * 2 ^ 8 = a + k * 256 := by
  have h1 : a + k * 256 = 2 ^ 8 * k + a := by omega
  rw [h1]
  apply Nat.eq_of_testBit_eq
  intro j
  rw [Nat.testBit_two_pow_mul_add k (by omega), Nat.testBit_xor, Nat.testBit_mul_two_pow]
  by_cases hj : j < 8
  · rw [if_pos hj, decide_eq_false (by omega), Bool.false_and, Bool.xor_false]
  · rw [if_neg hj, decide_eq_true (by omega), Bool.true_and]
    have : a.testBit j = false := Nat.testBit_lt_two_pow (Nat.lt_of_lt_of_le ha (by
      have : 2 ^ 8 ≤ 2 ^ j := Nat.pow_le_pow_right (by decide) (by omega)
      omega))
    rw [this, Bool.false_xor]
theorem four_eq {a b c d : Nat} (ha : a < 256) (hb : b < 256) (hc : c < 256) : four a b c d = a + (b + (c + d * 256) * 256) * 256 := by
  unfold four
  rw [xor_add hc, xor_add hb, xor_add ha]
theorem four_lt {a b c d : UInt8} : four a.toNat b.toNat c.toNat d.toNat < 4294967296 := by
  have h1 := a.toNat_lt
  have h2 := b.toNat_lt
  have h3 := c.toNat_lt
  have h4 := d.toNat_lt
  rw [four_eq (by omega) (by omega) (by omega)]
  omega
/-- The four bytes of a sum. -/
def le4 (n : Nat) : List UInt8 := [UInt8.ofNat n, UInt8.ofNat (n / 256), UInt8.ofNat (n / 65536), UInt8.ofNat (n / 16777216)]
theorem le4_len (n : Nat) : (le4 n).length = 4 := rfl
theorem goes_le4 (r n : Nat) (hn : n < 4294967296) : goesN r (le4 n) = upsN 32 (r ^^^ n) := by
  unfold le4
  rw [goes_four]
  simp only [UInt8.toNat_ofNat']
  rw [four_eq (by omega) (by omega) (by omega)]
  congr 2
  omega
/-- What a text with its sum behind it leads to. -/
def sum4 (s : List UInt8) : List UInt8 := le4 (4294967295 ^^^ goesN 4294967295 s)
def sealL (s : List UInt8) : List UInt8 := s ++ sum4 s
theorem seal_goes (s : List UInt8) : goesN 4294967295 (sealL s) = upsN 32 4294967295 := by
  have hl := goesN_lt s (r := 4294967295) (by omega)
  unfold sealL sum4
  rw [goesN_append, goes_le4 _ _ (xor32_lt (by omega) hl), ← Nat.xor_assoc, Nat.xor_comm (goesN 4294967295 s), Nat.xor_assoc, Nat.xor_self, Nat.xor_zero]
theorem list4 {l : List UInt8} (h : l.length = 4) : ∃ a b c d, l = [a, b, c, d] := by
  match l, h with
  | [a, b, c, d], _ => exact ⟨a, b, c, d, rfl⟩
/-- Two texts that lead to the same, alike but for four bytes side by side, are alike there too. -/
theorem burst {r : Nat} (hr : r < 4294967296) (u v : List UInt8) {x y : List UInt8} (hx : x.length = 4) (hy : y.length = 4) (h : goesN r (u ++ (x ++ v)) = goesN r (u ++ (y ++ v))) : x = y := by
  obtain ⟨a, b, c, d, rfl⟩ := list4 hx
  obtain ⟨a', b', c', d', rfl⟩ := list4 hy
  rw [goesN_append, goesN_append, goesN_append, goesN_append] at h
  have hu := goesN_lt u hr
  have h1 := goesN_inj v (goesN_lt _ hu) (goesN_lt _ hu) h
  rw [goes_four, goes_four] at h1
  have h2 := upsN_inj 32 (xor32_lt hu four_lt) (xor32_lt hu four_lt) h1
  rw [Nat.xor_comm, Nat.xor_comm (goesN r u)] at h2
  have h3 := xor_left h2
  have k1 := a.toNat_lt
  have k2 := b.toNat_lt
  have k3 := c.toNat_lt
  have k1' := a'.toNat_lt
  have k2' := b'.toNat_lt
  have k3' := c'.toNat_lt
  rw [four_eq (by omega) (by omega) (by omega), four_eq (by omega) (by omega) (by omega)] at h3
  rw [show a = a' from UInt8.toNat_inj.1 (by omega), show b = b' from UInt8.toNat_inj.1 (by omega), show c = c' from UInt8.toNat_inj.1 (by omega), show d = d' from UInt8.toNat_inj.1 (by omega)]
/-- Two sealed texts, alike but for four bytes side by side, are alike. -/
theorem seal_burst {s t u v x y : List UInt8} (hs : sealL s = u ++ (x ++ v)) (ht : sealL t = u ++ (y ++ v)) (hx : x.length = 4) (hy : y.length = 4) : x = y :=
  burst (r := 4294967295) (by omega) u v hx hy (by rw [← hs, ← ht, seal_goes, seal_goes])
end Go.Proofs.Ytdlmkdldmiiaiaa.Crc
