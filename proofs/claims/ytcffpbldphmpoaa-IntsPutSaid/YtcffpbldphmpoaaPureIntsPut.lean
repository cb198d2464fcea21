/- The bytes of any two numbers, and of them as ints, are the reference's. No condition. -/
import Derived.Test.YtcffpbldphmpoaaPIntsPutx2
import Derived.Test.YtcffpbldphmpoaaMa
namespace Go.Proofs.Ytcffpbldphmpoaa.Pure
open Go.RowKit Go.Proofs.Ytcffpbldphmpoaa.PIntsPut Go.Proofs.YtcffpbldphmpoaaW.PrintWords Go.Proofs.YtcffpbldphmpoaaW.PrintLast Go.Proofs.YtcffpbldphmpoaaW.PrintMore Go.Proofs.Ytcffpbldphmpoaa.Ma
set_option linter.unusedVariables false
set_option linter.unusedSimpArgs false
/-! ### ints: what put and get tell -/
theorem put_loop : ∀ (d u : Nat) (acc : List Int) (i : Int), u < 128 ^ (d + 1) → 0 ≤ i → i + d ≤ 9 → acc.length ≤ i → ∀ k, d < k →
    ints_put.l0 k (u : Int) acc i = some ⟨(acc.map (fun n => UInt8.ofNat n.toNat) ++ enc u).toArray⟩ := by
  intro d
  induction d with
  | zero =>
    intro u acc i hu h0 hi ha k hk
    obtain ⟨k, rfl⟩ : ∃ m, k = m + 1 := ⟨k - 1, by omega⟩
    simp only [ints_put.l0]
    rw [if_pos (by omega), if_pos (by omega), if_pos (by omega), enc_small (by omega)]
    simp only [strOfNums, List.map_append, List.map_cons, List.map_nil]
    congr 6
    omega
  | succ d ih =>
    intro u acc i hu h0 hi ha k hk
    obtain ⟨k, rfl⟩ : ∃ m, k = m + 1 := ⟨k - 1, by omega⟩
    simp only [ints_put.l0]
    by_cases h : u < 128
    · rw [if_pos (by omega), if_pos (by omega), if_pos (by omega), enc_small (by omega)]
      simp only [strOfNums, List.map_append, List.map_cons, List.map_nil]
      congr 6
      omega
    · rw [if_pos (by omega), if_neg (by omega), if_pos (by omega), show wrap64 (i + 1) = i + 1 by unfold wrap64; omega, show ((u : Int) / 128) = ((u / 128 : Nat) : Int) by omega]
      rw [ih (u / 128) _ (i + 1) (by rw [Nat.div_lt_iff_lt_mul (by omega)]; rw [Nat.pow_succ] at hu; exact hu) (by omega) (by omega) (by simp; omega) k (by omega), enc_big (u := u) (by omega), or_128]
      simp only [List.map_append, List.map_cons, List.map_nil, List.append_assoc, List.cons_append, List.nil_append, Int.toNat_natCast]
theorem put_at {u : Nat} (hu : u < 18446744073709551616) (k : Nat) (hk : 10 ≤ k) : ints_put.f k (u : Int) = some (encB u) := by
  unfold ints_put.f
  rw [put_loop 9 u [] 0 (by have := p128; omega) (by omega) (by omega) (by simp) k (by omega)]
  rfl
theorem Put_at {n : Int} (h0 : 0 ≤ n) (h1 : n ≤ 9223372036854775807) (k : Nat) (hk : 10 ≤ k) : ints_Put.f k n = some (encB n.toNat) := by
  unfold ints_Put.f
  rw [if_neg (by omega), wrap_u64, show n % 18446744073709551616 = ((n.toNat : Nat) : Int) by omega, put_at (by omega) k hk]
  rfl
theorem Put_neg {n : Int} (h0 : n < 0) (k : Nat) : ints_Put.f k n = some (⟨#[]⟩ : ByteArray) := by
  unfold ints_Put.f
  rw [if_pos h0]
theorem PutInt_at {n : Int} (h0 : -9223372036854775808 ≤ n) (h1 : n ≤ 9223372036854775807) (k : Nat) (hk : 10 ≤ k) : ints_PutInt.f k n = some (encB (zig n)) := by
  unfold ints_PutInt.f
  rw [zig_bits n h0 h1, put_at (zig_lt h0 h1) k hk]
  rfl
theorem does_30 : carousellaw01_does.f 30 = some true := by decide +kernel
theorem does_at {k : Nat} (hk : 30 ≤ k) : carousellaw01_does.f k = some true := at_rounds (g := carousellaw01_does.f) carousellaw01_does.mono hk does_30
/-! ### the reference's bytes and number -/
theorem bytes_loop : ∀ (d u : Nat) (acc : ByteArray), u < 128 ^ (d + 1) → u < 18446744073709551616 → acc.size + d ≤ 1000 → ∀ k, d < k → carouselref01_bytes.l0 k (u : Int) acc = some (acc ++ encB u) := by
  intro d
  induction d with
  | zero =>
    intro u acc hu hu2 ha k hk
    obtain ⟨k, rfl⟩ : ∃ m, k = m + 1 := ⟨k - 1, by omega⟩
    simp only [carouselref01_bytes.l0, Option.bind_some, strOfNums_size, List.length_singleton]
    rw [if_neg (by omega), if_pos (by omega), encB_small (by omega), show ((u : Int) % 256) = u by omega]
  | succ d ih =>
    intro u acc hu hu2 ha k hk
    obtain ⟨k, rfl⟩ : ∃ m, k = m + 1 := ⟨k - 1, by omega⟩
    simp only [carouselref01_bytes.l0, Option.bind_some, strOfNums_size, List.length_singleton]
    by_cases h : u < 128
    · rw [if_neg (by omega), if_pos (by omega), encB_small (by omega), show ((u : Int) % 256) = u by omega]
    · have hlt : u / 128 < 128 ^ (d + 1) := by rw [Nat.div_lt_iff_lt_mul (by omega)]; rw [Nat.pow_succ] at hu; exact hu
      rw [if_pos (by omega), if_pos (by omega), wrap_u64, tdiv_128, tmod_128, show ((u / 128 : Nat) : Int) % 18446744073709551616 = ((u / 128 : Nat) : Int) by omega,
        show ((((u % 128 : Nat) : Int) % 256 + 128) % 256) = ((u % 128 + 128 : Nat) : Int) by omega]
      rw [ih (u / 128) _ hlt (by omega) (by rw [ByteArray.size_append, strOfNums_size]; simp; omega) k (by omega), ByteArray.append_assoc, ← encB_big (by omega)]
theorem bytes_at {u : Nat} (hu : u < 18446744073709551616) (k : Nat) (hk : 10 ≤ k) : carouselref01_bytes.f k (u : Int) = some (encB u) := by
  unfold carouselref01_bytes.f
  rw [bytes_loop 9 u _ (by have := p128; omega) hu (by show (0 : Nat) + 9 ≤ 1000; omega) k (by omega)]
  rw [show ((⟨#[]⟩ : ByteArray) ++ encB u) = encB u from ByteArray.empty_append]
theorem refPut_at (n : Int) (h0 : -9223372036854775808 ≤ n) (h1 : n ≤ 9223372036854775807) (k : Nat) (hk : 10 ≤ k) : carouselref01_Put.f k n = some (if n < 0 then ⟨#[]⟩ else encB n.toNat) := by
  unfold carouselref01_Put.f
  by_cases h : n < 0
  · rw [if_pos h, if_pos h]
  · rw [if_neg h, if_neg h, wrap_u64, show n % 18446744073709551616 = ((n.toNat : Nat) : Int) by omega, bytes_at (by omega) k hk]
    rfl
theorem refPutInt_at (n : Int) (h0 : -9223372036854775808 ≤ n) (h1 : n ≤ 9223372036854775807) (k : Nat) (hk : 10 ≤ k) : carouselref01_PutInt.f k n = some (encB (zig n)) := by
  unfold carouselref01_PutInt.f
  simp only [wrap_u64]
  have hz := zig_lt h0 h1
  by_cases h : n < 0
  · rw [if_pos h, show (2 * (wrap64 (-(wrap64 (n + 1))) % 18446744073709551616) % 18446744073709551616 + 1) % 18446744073709551616 = ((zig n : Nat) : Int) by
      unfold zig; rw [if_neg (by omega)]; unfold wrap64; omega, bytes_at hz k hk]
    rfl
  · rw [if_neg h, show (2 * (n % 18446744073709551616)) % 18446744073709551616 = ((zig n : Nat) : Int) by
      unfold zig; rw [if_pos (by omega)]; omega, bytes_at hz k hk]
    rfl
theorem Put_any (n : Int) (h0 : -9223372036854775808 ≤ n) (h1 : n ≤ 9223372036854775807) (k : Nat) (hk : 10 ≤ k) : ints_Put.f k n = some (if n < 0 then ⟨#[]⟩ else encB n.toNat) := by
  by_cases h : n < 0
  · rw [if_pos h, Put_neg h]
  · rw [if_neg h, Put_at (by omega) h1 k hk]
theorem IntsPut : carousellaw01_IntsPut.Pure := by
  intro n m hn hm
  obtain ⟨n0, n1⟩ := bounds_i64 hn
  obtain ⟨m0, m1⟩ := bounds_i64 hm
  refine ⟨40, ?_⟩
  unfold carousellaw01_IntsPut.f
  simp only [Put_any n n0 n1 40 (by omega), Put_any m m0 m1 40 (by omega), refPut_at n n0 n1 40 (by omega), refPut_at m m0 m1 40 (by omega), PutInt_at n0 n1 40 (by omega), PutInt_at m0 m1 40 (by omega), refPutInt_at n n0 n1 40 (by omega), refPutInt_at m m0 m1 40 (by omega), does_at (show 30 ≤ 40 by omega), Option.bind_some, if_true]
end Go.Proofs.Ytcffpbldphmpoaa.Pure
