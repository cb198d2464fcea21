/- The number, and the int, that stands at any place of any bytes, is the reference's, or there is none. No condition. -/
import Derived.Test.YtcffpbldphmpoaaPIntsGetx3
import Derived.Test.YtcffpbldphmpoaaMa
namespace Go.Proofs.Ytcffpbldphmpoaa.Pure
open Go.RowKit Go.Proofs.Ytcffpbldphmpoaa.PIntsGet Go.Proofs.YtcffpbldphmpoaaW.PrintWords Go.Proofs.YtcffpbldphmpoaaW.PrintLast Go.Proofs.YtcffpbldphmpoaaW.PrintMore Go.Proofs.Ytcffpbldphmpoaa.Ma
set_option linter.unusedVariables false
set_option linter.unusedSimpArgs false
/-! ### ints: what put and get tell -/
theorem put_loop : ∀ (d u : Nat) (acc : List Int) (i : Int), u < 128 ^ (d + 1) → 0 ≤ i → i + d ≤ 9 → acc.length ≤ i → ∀ k, d < k →
    ints_put.l0 k (u : Int) acc i = some ⟨(acc.map (fun n => UInt8.ofNat n.toNat) ++ enc u).toArray⟩ := by
  intro d
  induction d with
  | zero =>
    intro u acc i hu h0 hi ha k hk
    obtain ⟨k, rfl⟩ : ∃ m, k = m + 1 := ⟨k - 1, by omega⟩
    simp only [ints_put.l0]
    rw [if_pos (by omega), if_pos (by omega), if_pos (by omega), enc_small (by omega)]
    simp only [strOfNums, List.map_append, List.map_cons, List.map_nil]
    congr 6
    omega
  | succ d ih =>
    intro u acc i hu h0 hi ha k hk
    obtain ⟨k, rfl⟩ : ∃ m, k = m + 1 := ⟨k - 1, by omega⟩
    simp only [ints_put.l0]
    by_cases h : u < 128
    · rw [if_pos (by omega), if_pos (by omega), if_pos (by omega), enc_small (by omega)]
      simp only [strOfNums, List.map_append, List.map_cons, List.map_nil]
      congr 6
      omega
    · rw [if_pos (by omega), if_neg (by omega), if_pos (by omega), show wrap64 (i + 1) = i + 1 by unfold wrap64; omega, show ((u : Int) / 128) = ((u / 128 : Nat) : Int) by omega]
      rw [ih (u / 128) _ (i + 1) (by rw [Nat.div_lt_iff_lt_mul (by omega)]; rw [Nat.pow_succ] at hu; exact hu) (by omega) (by omega) (by simp; omega) k (by omega), enc_big (u := u) (by omega), or_128]
      simp only [List.map_append, List.map_cons, List.map_nil, List.append_assoc, List.cons_append, List.nil_append, Int.toNat_natCast]
theorem put_at {u : Nat} (hu : u < 18446744073709551616) (k : Nat) (hk : 10 ≤ k) : ints_put.f k (u : Int) = some (encB u) := by
  unfold ints_put.f
  rw [put_loop 9 u [] 0 (by have := p128; omega) (by omega) (by omega) (by simp) k (by omega)]
  rfl
theorem Put_at {n : Int} (h0 : 0 ≤ n) (h1 : n ≤ 9223372036854775807) (k : Nat) (hk : 10 ≤ k) : ints_Put.f k n = some (encB n.toNat) := by
  unfold ints_Put.f
  rw [if_neg (by omega), wrap_u64, show n % 18446744073709551616 = ((n.toNat : Nat) : Int) by omega, put_at (by omega) k hk]
  rfl
theorem Put_neg {n : Int} (h0 : n < 0) (k : Nat) : ints_Put.f k n = some (⟨#[]⟩ : ByteArray) := by
  unfold ints_Put.f
  rw [if_pos h0]
theorem PutInt_at {n : Int} (h0 : -9223372036854775808 ≤ n) (h1 : n ≤ 9223372036854775807) (k : Nat) (hk : 10 ≤ k) : ints_PutInt.f k n = some (encB (zig n)) := by
  unfold ints_PutInt.f
  rw [zig_bits n h0 h1, put_at (zig_lt h0 h1) k hk]
  rfl
theorem get_loop (s : ByteArray) (hs : s.size ≤ 140737488351232) (at' : Nat) : ∀ (d i acc : Nat), i + d = 10 → acc < 128 ^ i → at' + i ≤ s.size →
    ∀ k, 2 * d + 1 < k → ∃ res, ints_get.l0 k s (at' : Int) (acc : Int) (mn ((s.size : Int) - at') 10) (i : Int) = some res ∧
      (∀ v r, (i = 0 ∨ 0 < v) → acc + v * 128 ^ i < 18446744073709551616 → s.data.toList.drop (at' + i) = enc v ++ r → res = (((acc + v * 128 ^ i : Nat) : Int), (s.size : Int) - r.length, true)) ∧
      (res.2.2 = true → ∃ v r, (i = 0 ∨ 0 < v) ∧ acc + v * 128 ^ i < 18446744073709551616 ∧ s.data.toList.drop (at' + i) = enc v ++ r) := by
  intro d
  induction d with
  | zero =>
    intro i acc hi ha hat k hk
    obtain ⟨k, rfl⟩ : ∃ m, k = m + 1 := ⟨k - 1, by omega⟩
    obtain rfl : i = 10 := by omega
    simp only [ints_get.l0]
    rw [if_neg (by unfold mn; split <;> omega)]
    refine ⟨_, rfl, ?_, fun h => by simp at h⟩
    intro v r hv hlt _
    have := p128
    omega
  | succ d ih =>
    intro i acc hi ha hat k hk
    obtain ⟨k, rfl⟩ : ∃ m, k = m + 1 := ⟨k - 1, by omega⟩
    simp only [ints_get.l0]
    by_cases hend : at' + i < s.size
    · have hw : wrap64 ((at' : Int) + i) = ((at' + i : Nat) : Int) := by unfold wrap64; omega
      obtain ⟨c, hc, hcb, hdrop⟩ := byte_at s (at' + i) hend
      rw [if_pos (by unfold mn; split <;> omega), hw, if_pos (by omega), if_pos (by omega), hcb]
      obtain ⟨k, rfl⟩ : ∃ m, k = m + 1 := ⟨k - 1, by omega⟩
      have step : ∀ b : Bool, (b = true ↔ i = 9 ∧ 1 < c) → ∃ res, ints_get.j2 (k + 1) s (at' : Int) (acc : Int) (i : Int) (c : Int) (mn ((s.size : Int) - at') 10) (i : Int) b = some res ∧
          (∀ v r, (i = 0 ∨ 0 < v) → acc + v * 128 ^ i < 18446744073709551616 → s.data.toList.drop (at' + i) = enc v ++ r → res = (((acc + v * 128 ^ i : Nat) : Int), (s.size : Int) - r.length, true)) ∧
          (res.2.2 = true → ∃ v r, (i = 0 ∨ 0 < v) ∧ acc + v * 128 ^ i < 18446744073709551616 ∧ s.data.toList.drop (at' + i) = enc v ++ r) := by
        intro b hb
        simp only [ints_get.j2]
        rw [show wrap64 (7 * (i : Int)) = ((7 * i : Nat) : Int) by unfold wrap64; omega, and_127 _ (by omega) (by omega), wrap_u64, show (c : Int) % 128 % 18446744073709551616 = ((c % 128 : Nat) : Int) by omega]
        cases b with
        | true =>
          rw [if_pos rfl]
          refine ⟨_, rfl, ?_, fun h => by simp at h⟩
          obtain ⟨rfl, hc1⟩ := hb.1 rfl
          intro v r hv hlt hd
          exfalso
          rw [hdrop] at hd
          have hp := p128'
          by_cases hv' : v < 128
          · rw [enc_small hv'] at hd
            simp only [List.cons_append, List.nil_append, List.cons.injEq] at hd
            have := u8_inj hc (by omega) hd.1
            have : 2 * 128 ^ 9 ≤ v * 128 ^ 9 := Nat.mul_le_mul_right _ (by omega)
            omega
          · have : 128 * 128 ^ 9 ≤ v * 128 ^ 9 := Nat.mul_le_mul_right _ (by omega)
            omega
        | false =>
          rw [if_neg (by simp), if_pos (by omega)]
          have hnb : ¬ (i = 9 ∧ 1 < c) := fun h => by have := hb.2 h; cases this
          have hfit : acc + (c % 128) * 128 ^ i < 18446744073709551616 := fits ha (by omega) (by omega) hnb
          rw [lay acc (c % 128) i (by omega) ha hfit, hw, show wrap64 (((at' + i : Nat) : Int) + 1) = ((at' + i + 1 : Nat) : Int) by unfold wrap64; omega]
          by_cases hlow : c < 128
          · rw [if_pos (by omega)]
            rw [Nat.mod_eq_of_lt hlow] at *
            have hgood : (0 < c ∨ i = 0) → ∀ v r, (i = 0 ∨ 0 < v) → acc + v * 128 ^ i < 18446744073709551616 → s.data.toList.drop (at' + i) = enc v ++ r →
                ((((acc + c * 128 ^ i : Nat) : Int), ((at' + i + 1 : Nat) : Int), true) : Int × Int × Bool) = (((acc + v * 128 ^ i : Nat) : Int), (s.size : Int) - r.length, true) := by
              intro _ v r hv hlt hd
              rw [hdrop, ← List.singleton_append, ← enc_small hlow] at hd
              obtain ⟨rfl, rfl⟩ := enc_free _ _ _ _ hd
              rw [List.length_drop, data_length]
              congr 2
              omega
            by_cases hc0 : (c : Int) > 0
            · rw [if_pos hc0]
              refine ⟨_, rfl, hgood (.inl (by omega)), fun _ => ⟨c, s.data.toList.drop (at' + i + 1), .inr (by omega), hfit, ?_⟩⟩
              rw [hdrop, enc_small hlow]
              rfl
            · rw [if_neg hc0]
              refine ⟨_, rfl, ?_, ?_⟩
              · intro v r hv hlt hd
                have hd' := hd
                rw [hdrop, ← List.singleton_append, ← enc_small hlow] at hd'
                obtain ⟨rfl, rfl⟩ := enc_free _ _ _ _ hd'
                obtain rfl : i = 0 := by omega
                exact hgood (.inr rfl) _ _ (.inl rfl) hlt hd
              · intro hi0
                have hi0 : i = 0 := by simpa using hi0
                refine ⟨c, s.data.toList.drop (at' + i + 1), .inl hi0, hfit, ?_⟩
                rw [hdrop, enc_small hlow]
                rfl
          · rw [if_neg (by omega), show wrap64 ((i : Int) + 1) = ((i + 1 : Nat) : Int) by unfold wrap64; omega]
            have hi9 : i ≠ 9 := fun h => hnb ⟨h, by omega⟩
            obtain ⟨res, hr, h1, h2⟩ := ih (i + 1) (acc + c % 128 * 128 ^ i) (by omega) (by rw [Nat.pow_succ]; exact grows ha (by omega)) (by omega) k (by omega)
            refine ⟨res, hr, ?_, ?_⟩
            · intro v r hv hlt hd
              rw [hdrop] at hd
              by_cases hv' : v < 128
              · rw [enc_small hv'] at hd
                simp only [List.cons_append, List.nil_append, List.cons.injEq] at hd
                have := u8_inj hc (by omega) hd.1
                omega
              · rw [enc_big (by omega)] at hd
                simp only [List.cons_append, List.cons.injEq] at hd
                have e := u8_inj hc (by omega) hd.1
                have e2 : acc + c % 128 * 128 ^ i + v / 128 * 128 ^ (i + 1) = acc + v * 128 ^ i := parts_of (by omega)
                rw [← e2]
                exact h1 (v / 128) r (.inr (by omega)) (by omega) hd.2
            · intro ht
              obtain ⟨v, r, hv, hlt, hd⟩ := h2 ht
              have e2 : acc + c % 128 * 128 ^ i + v * 128 ^ (i + 1) = acc + (v * 128 + c % 128) * 128 ^ i := by rw [Nat.pow_succ, Nat.add_mul, Nat.mul_assoc, Nat.mul_comm (128 ^ i) 128]; omega
              refine ⟨v * 128 + c % 128, r, .inr (by omega), by omega, ?_⟩
              rw [hdrop, enc_big (by omega), show (v * 128 + c % 128) % 128 + 128 = c by omega, show (v * 128 + c % 128) / 128 = v by omega]
              rw [show at' + (i + 1) = at' + i + 1 by omega] at hd
              rw [hd]
              rfl
      by_cases h9 : (i : Int) = 9
      · rw [if_pos h9]
        refine step _ ?_
        simp only [decide_eq_true_eq]
        omega
      · rw [if_neg h9]
        refine step _ ?_
        simp only [Bool.false_eq_true, false_iff]
        omega
    · rw [if_neg (by unfold mn; split <;> omega)]
      refine ⟨_, rfl, ?_, fun h => by simp at h⟩
      intro v r hv hlt hd
      exfalso
      have := congrArg List.length hd
      rw [List.length_drop, data_length, List.length_append] at this
      have := enc_pos v
      omega
theorem get_at (s : ByteArray) (hs : s.size ≤ 140737488351232) (a : Int) (k : Nat) (hk : 23 < k) : ∃ res, ints_get.f k s a = some res ∧
    (∀ u r, StandsAt s a u r → res = ((u : Int), (s.size : Int) - r.length, true)) ∧ (res.2.2 = true → ∃ u r, StandsAt s a u r) := by
  unfold ints_get.f
  obtain ⟨k, rfl⟩ : ∃ m, k = m + 1 := ⟨k - 1, by omega⟩
  by_cases h0 : a < 0
  · rw [if_pos h0]
    simp only [ints_get.j0, if_true]
    exact ⟨_, rfl, fun u r h => by have := h.1; omega, fun h => by simp at h⟩
  · rw [if_neg h0]
    by_cases h1 : a > (s.size : Int)
    · simp only [ints_get.j0, decide_eq_true h1, if_true]
      exact ⟨_, rfl, fun u r h => by have := h.2.1; omega, fun h => by simp at h⟩
    · simp only [ints_get.j0, decide_eq_false h1, Bool.false_eq_true, if_false]
      obtain ⟨n, rfl⟩ := Int.eq_ofNat_of_zero_le (show 0 ≤ a by omega)
      rw [show wrap64 ((s.size : Int) - n) = (s.size : Int) - n by unfold wrap64; omega]
      obtain ⟨res, hr, g1, g2⟩ := get_loop s hs n 10 0 0 (by omega) (by omega) (by omega) k (by omega)
      refine ⟨res, hr, ?_, ?_⟩
      · intro u r h
        have := g1 u r (.inl rfl) (by have := h.2.2.1; omega) (by have := h.2.2.2; simpa using this)
        simpa using this
      · intro h
        obtain ⟨v, r, _, hlt, hd⟩ := g2 h
        exact ⟨v, r, by omega, by omega, by omega, by simpa using hd⟩
theorem GetInt_at (s : ByteArray) (hs : s.size ≤ 140737488351232) (a : Int) (k : Nat) (hk : 23 < k) : ints_GetInt.f k s a = some (getIntR s a) := by
  obtain ⟨⟨x, y, b⟩, hr, g1, g2⟩ := get_at s hs a k hk
  unfold ints_GetInt.f
  rw [hr]
  simp only [Option.bind_some]
  by_cases h : ∃ u r, StandsAt s a u r
  · obtain ⟨u, r, h⟩ := h
    have e := g1 u r h
    simp only [Prod.mk.injEq] at e
    obtain ⟨rfl, rfl, rfl⟩ := e
    rw [if_pos rfl, zag_bits u h.2.2.1, getIntR_yes h]
  · have e : b = false := by
      cases b with
      | false => rfl
      | true => exact absurd (g2 rfl) h
    subst e
    rw [if_neg (by simp), getIntR_no h]
theorem Get_at (s : ByteArray) (hs : s.size ≤ 140737488351232) (a : Int) (k : Nat) (hk : 23 < k) : ints_Get.f k s a = some (getR s a) := by
  obtain ⟨⟨x, y, b⟩, hr, g1, g2⟩ := get_at s hs a k hk
  unfold ints_Get.f
  rw [hr]
  simp only [Option.bind_some]
  by_cases h : ∃ u r, StandsAt s a u r
  · obtain ⟨u, r, h⟩ := h
    have e := g1 u r h
    simp only [Prod.mk.injEq] at e
    obtain ⟨rfl, rfl, rfl⟩ := e
    rw [if_pos rfl]
    by_cases hm : u ≤ 9223372036854775807
    · rw [if_neg (by omega), getR_yes h hm, show wrap64 (u : Int) = u by unfold wrap64; omega]
    · rw [if_pos (by omega), getR_big h (by omega)]
  · have e : b = false := by
      cases b with
      | false => rfl
      | true => exact absurd (g2 rfl) h
    subst e
    rw [if_neg (by simp), getR_no h]
theorem does_30 : carousellaw01_does.f 30 = some true := by decide +kernel
theorem does_at {k : Nat} (hk : 30 ≤ k) : carousellaw01_does.f k = some true := at_rounds (g := carousellaw01_does.f) carousellaw01_does.mono hk does_30
/-! ### the reference's bytes and number -/
theorem bytes_loop : ∀ (d u : Nat) (acc : ByteArray), u < 128 ^ (d + 1) → u < 18446744073709551616 → acc.size + d ≤ 1000 → ∀ k, d < k → carouselref01_bytes.l0 k (u : Int) acc = some (acc ++ encB u) := by
  intro d
  induction d with
  | zero =>
    intro u acc hu hu2 ha k hk
    obtain ⟨k, rfl⟩ : ∃ m, k = m + 1 := ⟨k - 1, by omega⟩
    simp only [carouselref01_bytes.l0, Option.bind_some, strOfNums_size, List.length_singleton]
    rw [if_neg (by omega), if_pos (by omega), encB_small (by omega), show ((u : Int) % 256) = u by omega]
  | succ d ih =>
    intro u acc hu hu2 ha k hk
    obtain ⟨k, rfl⟩ : ∃ m, k = m + 1 := ⟨k - 1, by omega⟩
    simp only [carouselref01_bytes.l0, Option.bind_some, strOfNums_size, List.length_singleton]
    by_cases h : u < 128
    · rw [if_neg (by omega), if_pos (by omega), encB_small (by omega), show ((u : Int) % 256) = u by omega]
    · have hlt : u / 128 < 128 ^ (d + 1) := by rw [Nat.div_lt_iff_lt_mul (by omega)]; rw [Nat.pow_succ] at hu; exact hu
      rw [if_pos (by omega), if_pos (by omega), wrap_u64, tdiv_128, tmod_128, show ((u / 128 : Nat) : Int) % 18446744073709551616 = ((u / 128 : Nat) : Int) by omega,
        show ((((u % 128 : Nat) : Int) % 256 + 128) % 256) = ((u % 128 + 128 : Nat) : Int) by omega]
      rw [ih (u / 128) _ hlt (by omega) (by rw [ByteArray.size_append, strOfNums_size]; simp; omega) k (by omega), ByteArray.append_assoc, ← encB_big (by omega)]
theorem bytes_at {u : Nat} (hu : u < 18446744073709551616) (k : Nat) (hk : 10 ≤ k) : carouselref01_bytes.f k (u : Int) = some (encB u) := by
  unfold carouselref01_bytes.f
  rw [bytes_loop 9 u _ (by have := p128; omega) hu (by show (0 : Nat) + 9 ≤ 1000; omega) k (by omega)]
  rw [show ((⟨#[]⟩ : ByteArray) ++ encB u) = encB u from ByteArray.empty_append]
def lastOf (s : ByteArray) (a e : Nat) (x : Nat) : Option (Int × Int × Bool) := if enc x = (s.data.toList.drop a).take (e + 1 - a) then some ((x : Int), ((e + 1 : Nat) : Int), true) else some (0, 0, false)
theorem number_last (s : ByteArray) (a e x k : Nat) (hs : s.size ≤ 5000) (ha : a ≤ e) (he : e < s.size) (hlt : x < 18446744073709551616) (hk : 10 ≤ k) :
    carouselref01_number.l1 (k + 1) s (a : Int) (e : Int) (x : Int) ((a : Int) - 1) = lastOf s a e x := by
  have e1 : wrap64 ((e : Int) + 1) = ((e + 1 : Nat) : Int) := by unfold wrap64; omega
  have h1 : ¬ (a : Int) - 1 ≥ a := by omega
  have h2 : (0 : Int) ≤ a := by omega
  have h3 : (a : Int) ≤ ((e + 1 : Nat) : Int) := by omega
  have h4 : ((e + 1 : Nat) : Int) ≤ (s.size : Int) := by omega
  simp only [carouselref01_number.l1]
  rw [if_neg h1, bytes_at hlt k hk, e1]
  simp only [Option.bind_some]
  rw [if_pos h2, if_pos h3, if_pos h4, encB_toList, extract_toList, Int.toNat_natCast, Int.toNat_natCast]
  rw [lastOf]
theorem number_l1 (s : ByteArray) (hs : s.size ≤ 5000) (a e : Nat) (ha : a ≤ e) (he : e < s.size) (X : Nat) (hX : X = valL ((s.data.toList.drop a).take (e + 1 - a)) % 18446744073709551616) :
    ∀ (n : Nat), a + n ≤ e + 1 → ∀ x : Nat, x = valL ((s.data.toList.drop (a + n)).take (e + 1 - (a + n))) % 18446744073709551616 → ∀ k, n + 11 < k →
    carouselref01_number.l1 k s (a : Int) (e : Int) (x : Int) (((a + n : Nat) : Int) - 1) = lastOf s a e X := by
  intro n
  induction n with
  | zero =>
    intro h x hx k hk
    obtain ⟨k, rfl⟩ : ∃ m, k = m + 1 := ⟨k - 1, by omega⟩
    rw [Nat.add_zero] at hx
    obtain rfl : x = X := hx.trans hX.symm
    have hlt : x < 18446744073709551616 := by rw [hx]; exact Nat.mod_lt _ (by omega)
    rw [Nat.add_zero]
    exact number_last s a e x k hs ha he hlt (by omega)
  | succ n ih =>
    intro h x hx k hk
    obtain ⟨k, rfl⟩ : ∃ m, k = m + 1 := ⟨k - 1, by omega⟩
    obtain ⟨c, hc, hcb, hd⟩ := byte_at s (a + n) (by omega)
    simp only [carouselref01_number.l1]
    rw [if_pos (by omega), show ((a + (n + 1) : Nat) : Int) - 1 = ((a + n : Nat) : Int) by omega, if_pos (by omega), if_pos (by omega), show wrap64 (((a + n : Nat) : Int) - 1) = ((a + n : Nat) : Int) - 1 by unfold wrap64; omega]
    rw [hcb, tmod_128]
    simp only [wrap_u64]
    have hv : ((x : Int) * 128 % 18446744073709551616 + ((c % 128 : Nat) : Int) % 18446744073709551616) % 18446744073709551616 = ((c % 128 + 128 * valL ((s.data.toList.drop (a + n + 1)).take (e - (a + n)))) % 18446744073709551616 : Nat) := by
      rw [show a + (n + 1) = a + n + 1 by omega, show e + 1 - (a + n + 1) = e - (a + n) by omega] at hx
      omega
    rw [hv]
    refine ih (by omega) _ ?_ k (by omega)
    rw [hd, show e + 1 - (a + n) = (e - (a + n)) + 1 by omega, List.take_succ_cons, valL_cons, u8_toNat hc]
theorem number_scan (s : ByteArray) (hs : s.size ≤ 5000) (a : Nat) : ∀ (n j : Nat), j + n = s.size → ∃ e m, j ≤ e ∧ e ≤ s.size ∧ m ≤ n + 1 ∧ ∀ k, carouselref01_number.l0 (k + m) s (a : Int) (j : Int) = carouselref01_number.j2 k s (a : Int) (e : Int) := by
  intro n
  induction n with
  | zero =>
    intro j hj
    refine ⟨j, 1, by omega, by omega, by omega, fun k => ?_⟩
    simp only [carouselref01_number.l0]
    rw [if_neg (by omega)]
  | succ n ih =>
    intro j hj
    obtain ⟨c, hc, hcb, hd⟩ := byte_at s j (by omega)
    by_cases hlow : c < 128
    · refine ⟨j, 1, by omega, by omega, by omega, fun k => ?_⟩
      simp only [carouselref01_number.l0]
      rw [if_pos (by omega), if_pos (by omega), hcb, if_neg (by omega)]
    · obtain ⟨e, m, h1, h2, h3, h4⟩ := ih (j + 1) (by omega)
      refine ⟨e, m + 1, by omega, by omega, by omega, fun k => ?_⟩
      rw [← Nat.add_assoc]
      simp only [carouselref01_number.l0]
      rw [if_pos (by omega), if_pos (by omega), hcb, if_pos (by omega), show wrap64 ((j : Int) + 1) = ((j + 1 : Nat) : Int) by unfold wrap64; omega]
      exact h4 k
theorem number_scan_at (s : ByteArray) (hs : s.size ≤ 5000) (a : Nat) (r : List UInt8) : ∀ (u j : Nat), s.data.toList.drop j = enc u ++ r → ∀ k, carouselref01_number.l0 (k + (enc u).length) s (a : Int) (j : Int) = carouselref01_number.j2 k s (a : Int) ((j + (enc u).length - 1 : Nat) : Int) := by
  intro u
  induction u using Nat.strongRecOn with
  | ind u ih =>
    intro j hd k
    have hl := congrArg List.length hd
    rw [List.length_drop, data_length, List.length_append] at hl
    have hp := enc_pos u
    obtain ⟨c, hc, hcb, hd'⟩ := byte_at s j (by omega)
    rw [hd'] at hd
    by_cases h : u < 128
    · rw [enc_small h] at hd ⊢
      simp only [List.cons_append, List.nil_append, List.cons.injEq] at hd
      have := u8_inj hc (by omega) hd.1
      simp only [List.length_singleton, carouselref01_number.l0]
      rw [if_pos (by omega), if_pos (by omega), hcb, if_neg (by omega)]
      rfl
    · rw [enc_big (by omega)] at hd ⊢
      simp only [List.cons_append, List.cons.injEq] at hd
      have := u8_inj hc (by omega) hd.1
      rw [List.length_cons, ← Nat.add_assoc]
      simp only [carouselref01_number.l0]
      rw [if_pos (by omega), if_pos (by omega), hcb, if_pos (by omega), show wrap64 ((j : Int) + 1) = ((j + 1 : Nat) : Int) by unfold wrap64; omega]
      rw [ih (u / 128) (by omega) (j + 1) hd.2 k]
      congr 2
      omega
theorem number_at (s : ByteArray) (hs : s.size ≤ 5000) (a : Int) (k : Nat) (hk : 2 * s.size + 100 < k) : ∃ res, carouselref01_number.f k s a = some res ∧
    (∀ u r, StandsAt s a u r → res = ((u : Int), (s.size : Int) - r.length, true)) ∧ (res.2.2 = true → ∃ u r, StandsAt s a u r) := by
  unfold carouselref01_number.f
  obtain ⟨k, rfl⟩ : ∃ m, k = m + 1 := ⟨k - 1, by omega⟩
  by_cases h0 : a < 0
  · rw [if_pos h0]
    simp only [carouselref01_number.j0, if_true]
    exact ⟨_, rfl, fun u r h => by have := h.1; omega, fun h => by simp at h⟩
  · rw [if_neg h0]
    by_cases h1 : a > (s.size : Int)
    · simp only [carouselref01_number.j0, decide_eq_true h1, if_true]
      exact ⟨_, rfl, fun u r h => by have := h.2.1; omega, fun h => by simp at h⟩
    · simp only [carouselref01_number.j0, decide_eq_false h1, Bool.false_eq_true, if_false]
      obtain ⟨n, rfl⟩ := Int.eq_ofNat_of_zero_le (show 0 ≤ a by omega)
      by_cases hst : ∃ u r, StandsAt s (n : Int) u r
      · obtain ⟨u, r, hst⟩ := hst
        have hlen := hst.len
        have hone := fun v q (h : StandsAt s (n : Int) v q) => hst.one h
        obtain ⟨g0, g1, g2, g3⟩ := hst
        rw [Int.toNat_natCast] at g3
        have hp := enc_pos u
        have h10 := enc_len10 g2
        have hl := congrArg List.length g3
        rw [List.length_drop, data_length, List.length_append] at hl
        obtain ⟨k, rfl⟩ : ∃ m, k = m + (enc u).length := ⟨k - (enc u).length, by omega⟩
        rw [number_scan_at s hs n r u n g3 k]
        obtain ⟨e, he⟩ : ∃ e, e + 1 = n + (enc u).length := ⟨n + (enc u).length - 1, by omega⟩
        rw [show n + (enc u).length - 1 = e by omega]
        obtain ⟨k, rfl⟩ : ∃ m, k = m + 2 := ⟨k - 2, by omega⟩
        have hgo : carouselref01_number.j3 (k + 1) s (n : Int) (e : Int) false = some ((u : Int), (s.size : Int) - r.length, true) := by
          simp only [carouselref01_number.j3, Bool.false_eq_true, if_false]
          have := number_l1 s hs n e (by omega) (by omega) u (by rw [show e + 1 - n = (enc u).length by omega, g3, List.take_left, valL_enc, Nat.mod_eq_of_lt g2]) (enc u).length (by omega) 0
            (by rw [← he, Nat.sub_self, List.take_zero, valL_nil]) k (by omega)
          rw [← he, show ((e + 1 : Nat) : Int) - 1 = (e : Int) by omega] at this
          rw [show ((0 : Int)) = ((0 : Nat) : Int) by rfl, this]
          unfold lastOf
          rw [show e + 1 - n = (enc u).length by omega, g3, List.take_left, if_pos rfl]
          congr 2
          congr 1
          omega
        refine ⟨((u : Int), (s.size : Int) - r.length, true), ?_, ?_, fun _ => ⟨u, r, by omega, by omega, g2, g3⟩⟩
        · simp only [carouselref01_number.j2]
          rw [if_neg (by omega), show wrap64 ((e : Int) - n) = ((e - n : Nat) : Int) by unfold wrap64; omega, if_neg (by omega)]
          by_cases h9 : ((e - n : Nat) : Int) = 9
          · rw [if_pos h9, if_pos (by omega), if_pos (by omega)]
            obtain ⟨c, hc, hcb, hd⟩ := byte_at s e (by omega)
            obtain ⟨c', q1, q2⟩ := enc_last 9 u (by omega)
            have hq : s.data.toList[e]? = some (UInt8.ofNat c) := by
              rw [← List.head?_drop, hd]; rfl
            have hq' : s.data.toList[e]? = some c' := by
              have : (s.data.toList.drop n)[9]? = some c' := by rw [g3, List.getElem?_append_left (by omega)]; exact q1
              rw [List.getElem?_drop] at this
              rw [← this]; congr 1; omega
            have hcc : UInt8.ofNat c = c' := Option.some.inj (hq.symm.trans hq')
            have : c = u / 128 ^ 9 := by rw [← q2, ← hcc, u8_toNat hc]
            have : c ≤ 1 := by rw [this, p128']; omega
            rw [hcb, decide_eq_false (by omega), hgo]
          · rw [if_neg h9, hgo]
        · intro v q h
          obtain ⟨rfl, rfl⟩ := hone v q h
          rfl
      · obtain ⟨e, m, h2, h3, h4, h5⟩ := number_scan s hs n (s.size - n) n (by omega)
        obtain ⟨k, rfl⟩ : ∃ j, k = j + m := ⟨k - m, by omega⟩
        rw [h5 k]
        have hbad : ∃ res, carouselref01_number.j2 k s (n : Int) (e : Int) = some res ∧ (res.2.2 = true → ∃ u r, StandsAt s (n : Int) u r) := by
          obtain ⟨k, rfl⟩ : ∃ j, k = j + 2 := ⟨k - 2, by omega⟩
          have ht : ∃ res, carouselref01_number.j3 (k + 1) s (n : Int) (e : Int) true = some res ∧ (res.2.2 = true → ∃ u r, StandsAt s (n : Int) u r) := by
            simp only [carouselref01_number.j3, if_true]
            exact ⟨_, rfl, fun h => by simp at h⟩
          simp only [carouselref01_number.j2]
          by_cases q1 : e < s.size
          · have hf : ∃ res, carouselref01_number.j3 (k + 1) s (n : Int) (e : Int) false = some res ∧ (res.2.2 = true → ∃ u r, StandsAt s (n : Int) u r) := by
              simp only [carouselref01_number.j3, Bool.false_eq_true, if_false]
              obtain ⟨X, hX⟩ : ∃ X, X = valL ((s.data.toList.drop n).take (e + 1 - n)) % 18446744073709551616 := ⟨_, rfl⟩
              have hlt : X < 18446744073709551616 := by rw [hX]; exact Nat.mod_lt _ (by omega)
              have := number_l1 s hs n e (by omega) (by omega) X hX (e + 1 - n) (by omega) 0 (by rw [show n + (e + 1 - n) = e + 1 by omega, Nat.sub_self, List.take_zero, valL_nil]) k (by omega)
              rw [show n + (e + 1 - n) = e + 1 by omega, show ((e + 1 : Nat) : Int) - 1 = (e : Int) by omega] at this
              rw [show ((0 : Int)) = ((0 : Nat) : Int) by rfl, this]
              clear hX
              unfold lastOf
              split
              · rename_i hq
                refine ⟨_, rfl, fun _ => ⟨X, (s.data.toList.drop n).drop (e + 1 - n), by omega, by omega, hlt, ?_⟩⟩
                rw [hq, Int.toNat_natCast, List.take_append_drop]
              · exact ⟨_, rfl, fun h => by simp at h⟩
            rw [if_neg (by omega), show wrap64 ((e : Int) - n) = ((e - n : Nat) : Int) by unfold wrap64; omega]
            by_cases q2 : ((e - n : Nat) : Int) > 9
            · rw [if_pos q2]; exact ht
            · rw [if_neg q2]
              by_cases q3 : ((e - n : Nat) : Int) = 9
              · rw [if_pos q3, if_pos (by omega), if_pos (by omega)]
                by_cases q4 : bt s (e : Int) > 1
                · rw [decide_eq_true q4]; exact ht
                · rw [decide_eq_false q4]; exact hf
              · rw [if_neg q3]; exact hf
          · rw [if_pos (by omega)]; exact ht
        obtain ⟨res, hr, hb⟩ := hbad
        exact ⟨res, hr, fun u r h => absurd ⟨u, r, h⟩ hst, hb⟩
theorem refGet_at (s : ByteArray) (hs : s.size ≤ 5000) (a : Int) (k : Nat) (hk : 2 * s.size + 100 < k) : carouselref01_Get.f k s a = some (getR s a) := by
  obtain ⟨⟨x, y, b⟩, hr, g1, g2⟩ := number_at s hs a k hk
  unfold carouselref01_Get.f
  rw [hr]
  simp only [Option.bind_some]
  by_cases h : ∃ u r, StandsAt s a u r
  · obtain ⟨u, r, h⟩ := h
    have e := g1 u r h
    simp only [Prod.mk.injEq] at e
    obtain ⟨rfl, rfl, rfl⟩ := e
    rw [if_pos rfl]
    by_cases hm : u ≤ 9223372036854775807
    · rw [if_neg (by omega), getR_yes h hm, show wrap64 (u : Int) = u by unfold wrap64; omega]
    · rw [if_pos (by omega), getR_big h (by omega)]
  · have e : b = false := by
      cases b with
      | false => rfl
      | true => exact absurd (g2 rfl) h
    subst e
    rw [if_neg (by simp), getR_no h]
theorem refGetInt_at (s : ByteArray) (hs : s.size ≤ 5000) (a : Int) (k : Nat) (hk : 2 * s.size + 100 < k) : carouselref01_GetInt.f k s a = some (getIntR s a) := by
  obtain ⟨⟨x, y, b⟩, hr, g1, g2⟩ := number_at s hs a k hk
  unfold carouselref01_GetInt.f
  rw [hr]
  simp only [Option.bind_some]
  by_cases h : ∃ u r, StandsAt s a u r
  · obtain ⟨u, r, h⟩ := h
    have e := g1 u r h
    simp only [Prod.mk.injEq] at e
    obtain ⟨rfl, rfl, rfl⟩ := e
    have hu := h.2.2.1
    rw [if_pos rfl, getIntR_yes h, Int.tmod_eq_emod_of_nonneg (by omega), Int.tdiv_eq_ediv_of_nonneg (by omega), wrap_u64]
    unfold zag
    by_cases e : u % 2 = 0
    · rw [if_neg (by omega), if_pos e]
      congr 2
      unfold wrap64
      omega
    · rw [if_pos (by omega), if_neg e]
      congr 2
      unfold wrap64
      omega
  · have e : b = false := by
      cases b with
      | false => rfl
      | true => exact absurd (g2 rfl) h
    subst e
    rw [if_neg (by simp), getIntR_no h]
theorem IntsGet : carousellaw01_IntsGet.Pure := by
  intro s a hs ha
  by_cases h : (s.size : Int) > 5000
  · exact ⟨0, by unfold carousellaw01_IntsGet.f; rw [if_pos h]⟩
  · refine ⟨20000, ?_⟩
    unfold carousellaw01_IntsGet.f
    rw [if_neg h, Get_at s hs a 20000 (by omega), refGet_at s (by omega) a 20000 (by omega), GetInt_at s hs a 20000 (by omega), refGetInt_at s (by omega) a 20000 (by omega), does_at (by omega)]
    simp
end Go.Proofs.Ytcffpbldphmpoaa.Pure
