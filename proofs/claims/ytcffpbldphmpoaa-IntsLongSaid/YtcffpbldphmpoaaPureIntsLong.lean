/- A number has as many bytes as sevens of bits are needed. No condition. -/
import Derived.Test.YtcffpbldphmpoaaPIntsLongx2
import Derived.Test.YtcffpbldphmpoaaMa
namespace Go.Proofs.Ytcffpbldphmpoaa.Pure
open Go.RowKit Go.Proofs.Ytcffpbldphmpoaa.PIntsLong Go.Proofs.YtcffpbldphmpoaaW.PrintWords Go.Proofs.YtcffpbldphmpoaaW.PrintLast Go.Proofs.YtcffpbldphmpoaaW.PrintMore Go.Proofs.Ytcffpbldphmpoaa.Ma
set_option linter.unusedVariables false
set_option linter.unusedSimpArgs false
/-! ### ints: what put and get tell -/
theorem put_loop : ∀ (d u : Nat) (acc : List Int) (i : Int), u < 128 ^ (d + 1) → 0 ≤ i → i + d ≤ 9 → acc.length ≤ i → ∀ k, d < k →
    ints_put.l0 k (u : Int) acc i = some ⟨(acc.map (fun n => UInt8.ofNat n.toNat) ++ enc u).toArray⟩ := by
  intro d
  induction d with
  | zero =>
    intro u acc i hu h0 hi ha k hk
    obtain ⟨k, rfl⟩ : ∃ m, k = m + 1 := ⟨k - 1, by omega⟩
    simp only [ints_put.l0]
    rw [if_pos (by omega), if_pos (by omega), if_pos (by omega), enc_small (by omega)]
    simp only [strOfNums, List.map_append, List.map_cons, List.map_nil]
    congr 6
    omega
  | succ d ih =>
    intro u acc i hu h0 hi ha k hk
    obtain ⟨k, rfl⟩ : ∃ m, k = m + 1 := ⟨k - 1, by omega⟩
    simp only [ints_put.l0]
    by_cases h : u < 128
    · rw [if_pos (by omega), if_pos (by omega), if_pos (by omega), enc_small (by omega)]
      simp only [strOfNums, List.map_append, List.map_cons, List.map_nil]
      congr 6
      omega
    · rw [if_pos (by omega), if_neg (by omega), if_pos (by omega), show wrap64 (i + 1) = i + 1 by unfold wrap64; omega, show ((u : Int) / 128) = ((u / 128 : Nat) : Int) by omega]
      rw [ih (u / 128) _ (i + 1) (by rw [Nat.div_lt_iff_lt_mul (by omega)]; rw [Nat.pow_succ] at hu; exact hu) (by omega) (by omega) (by simp; omega) k (by omega), enc_big (u := u) (by omega), or_128]
      simp only [List.map_append, List.map_cons, List.map_nil, List.append_assoc, List.cons_append, List.nil_append, Int.toNat_natCast]
theorem put_at {u : Nat} (hu : u < 18446744073709551616) (k : Nat) (hk : 10 ≤ k) : ints_put.f k (u : Int) = some (encB u) := by
  unfold ints_put.f
  rw [put_loop 9 u [] 0 (by have := p128; omega) (by omega) (by omega) (by simp) k (by omega)]
  rfl
theorem Put_at {n : Int} (h0 : 0 ≤ n) (h1 : n ≤ 9223372036854775807) (k : Nat) (hk : 10 ≤ k) : ints_Put.f k n = some (encB n.toNat) := by
  unfold ints_Put.f
  rw [if_neg (by omega), wrap_u64, show n % 18446744073709551616 = ((n.toNat : Nat) : Int) by omega, put_at (by omega) k hk]
  rfl
theorem Put_neg {n : Int} (h0 : n < 0) (k : Nat) : ints_Put.f k n = some (⟨#[]⟩ : ByteArray) := by
  unfold ints_Put.f
  rw [if_pos h0]
theorem PutInt_at {n : Int} (h0 : -9223372036854775808 ≤ n) (h1 : n ≤ 9223372036854775807) (k : Nat) (hk : 10 ≤ k) : ints_PutInt.f k n = some (encB (zig n)) := by
  unfold ints_PutInt.f
  rw [zig_bits n h0 h1, put_at (zig_lt h0 h1) k hk]
  rfl
theorem does_30 : carousellaw01_does.f 30 = some true := by decide +kernel
theorem does_at {k : Nat} (hk : 30 ≤ k) : carousellaw01_does.f k = some true := at_rounds (g := carousellaw01_does.f) carousellaw01_does.mono hk does_30
theorem long_loop (n : Nat) (hn : n ≤ 9223372036854775807) : ∀ (d m : Nat) (want : Int), m < 128 ^ d → m ≤ 9223372036854775807 → 0 ≤ want → want + d ≤ 100 → ((enc n).length : Int) = want + (if 0 < m then (enc m).length else 0 : Nat) →
    ∀ k, d + 31 < k → carousellaw01_IntsLong.l0 k (n : Int) want (m : Int) = some true := by
  intro d
  induction d with
  | zero =>
    intro m want hm hb h0 h1 hl k hk
    obtain ⟨k, rfl⟩ : ∃ j, k = j + 1 := ⟨k - 1, by omega⟩
    have : m = 0 := by simpa using hm
    subst this
    simp only [carousellaw01_IntsLong.l0]
    rw [if_neg (by omega), Put_at (by omega) (by omega) k (by omega)]
    simp only [Option.bind_some, Int.toNat_natCast, encB_size]
    rw [if_pos (by simpa using hl), does_at (by omega)]
    rfl
  | succ d ih =>
    intro m want hm hb h0 h1 hl k hk
    obtain ⟨k, rfl⟩ : ∃ j, k = j + 1 := ⟨k - 1, by omega⟩
    simp only [carousellaw01_IntsLong.l0]
    by_cases hm0 : 0 < m
    · rw [if_pos (by omega), tdiv_128]
      rw [show wrap64 (want + 1) = want + 1 by unfold wrap64; omega, show wrap64 ((m / 128 : Nat) : Int) = ((m / 128 : Nat) : Int) by unfold wrap64; omega]
      refine ih (m / 128) (want + 1) (by rw [Nat.div_lt_iff_lt_mul (by omega)]; rw [Nat.pow_succ] at hm; exact hm) (by omega) (by omega) (by omega) ?_ k (by omega)
      rw [hl, if_pos hm0]
      by_cases h : m < 128
      · rw [enc_small h, if_neg (by omega)]; simp
      · rw [enc_big (u := m) (by omega), if_pos (by omega), List.length_cons]; omega
    · obtain rfl : m = 0 := by omega
      rw [if_neg (by omega), Put_at (by omega) (by omega) k (by omega)]
      simp only [Option.bind_some, Int.toNat_natCast, encB_size]
      rw [if_pos (by simpa using hl), does_at (by omega)]
      rfl
theorem IntsLong : carousellaw01_IntsLong.Pure := by
  intro x y hx hy
  obtain ⟨x0, x1⟩ := bounds_u64 hx
  obtain ⟨y0, y1⟩ := bounds_u8 hy
  refine ⟨50, ?_⟩
  unfold carousellaw01_IntsLong.f
  rw [show wrap64 y = y by unfold wrap64; omega, Int.tmod_eq_emod_of_nonneg y0, if_pos (by omega)]
  have hs : 0 ≤ shr .u64 (x / 2) (y % 64) ∧ shr .u64 (x / 2) (y % 64) ≤ 9223372036854775807 := by
    unfold shr
    have hp : (0 : Int) ≤ 2 ^ min (y % 64).toNat IntKind.u64.bits := Int.pow_nonneg (by decide)
    have h1 := Int.ediv_nonneg (show 0 ≤ x / 2 by omega) hp
    have h2 := Int.ediv_le_self (a := x / 2) (2 ^ min (y % 64).toNat IntKind.u64.bits) (by omega)
    omega
  generalize shr .u64 (x / 2) (y % 64) = n at hs
  obtain ⟨h0, h1⟩ := hs
  obtain ⟨n, rfl⟩ := Int.eq_ofNat_of_zero_le h0
  rw [show wrap64 (n : Int) = n by unfold wrap64; omega, tdiv_128, show wrap64 ((n / 128 : Nat) : Int) = ((n / 128 : Nat) : Int) by unfold wrap64; omega]
  refine long_loop n (by omega) 10 (n / 128) 1 (by have := p128; omega) (by omega) (by omega) (by omega) ?_ 50 (by omega)
  by_cases h : n < 128
  · rw [enc_small h, if_neg (by omega)]; simp
  · rw [enc_big (u := n) (by omega), if_pos (by omega), List.length_cons]; omega
end Go.Proofs.Ytcffpbldphmpoaa.Pure
