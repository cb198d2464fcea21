/- Bytes of a number that are cut off are none. No condition. -/
import Derived.Test.YtcffpbldphmpoaaPIntsCutx2
import Derived.Test.YtcffpbldphmpoaaMa
namespace Go.Proofs.Ytcffpbldphmpoaa.Pure
open Go.RowKit Go.Proofs.Ytcffpbldphmpoaa.PIntsCut Go.Proofs.YtcffpbldphmpoaaW.PrintWords Go.Proofs.YtcffpbldphmpoaaW.PrintLast Go.Proofs.YtcffpbldphmpoaaW.PrintMore Go.Proofs.Ytcffpbldphmpoaa.Ma
set_option linter.unusedVariables false
set_option linter.unusedSimpArgs false
/-! ### ints: what put and get tell -/
theorem put_loop : ∀ (d u : Nat) (acc : List Int) (i : Int), u < 128 ^ (d + 1) → 0 ≤ i → i + d ≤ 9 → acc.length ≤ i → ∀ k, d < k →
    ints_put.l0 k (u : Int) acc i = some ⟨(acc.map (fun n => UInt8.ofNat n.toNat) ++ enc u).toArray⟩ := by
  intro d
  induction d with
  | zero =>
    intro u acc i hu h0 hi ha k hk
    obtain ⟨k, rfl⟩ : ∃ m, k = m + 1 := ⟨k - 1, by omega⟩
    simp only [ints_put.l0]
    rw [if_pos (by omega), if_pos (by omega), if_pos (by omega), enc_small (by omega)]
    simp only [strOfNums, List.map_append, List.map_cons, List.map_nil]
    congr 6
    omega
  | succ d ih =>
    intro u acc i hu h0 hi ha k hk
    obtain ⟨k, rfl⟩ : ∃ m, k = m + 1 := ⟨k - 1, by omega⟩
    simp only [ints_put.l0]
    by_cases h : u < 128
    · rw [if_pos (by omega), if_pos (by omega), if_pos (by omega), enc_small (by omega)]
      simp only [strOfNums, List.map_append, List.map_cons, List.map_nil]
      congr 6
      omega
    · rw [if_pos (by omega), if_neg (by omega), if_pos (by omega), show wrap64 (i + 1) = i + 1 by unfold wrap64; omega, show ((u : Int) / 128) = ((u / 128 : Nat) : Int) by omega]
      rw [ih (u / 128) _ (i + 1) (by rw [Nat.div_lt_iff_lt_mul (by omega)]; rw [Nat.pow_succ] at hu; exact hu) (by omega) (by omega) (by simp; omega) k (by omega), enc_big (u := u) (by omega), or_128]
      simp only [List.map_append, List.map_cons, List.map_nil, List.append_assoc, List.cons_append, List.nil_append, Int.toNat_natCast]
theorem put_at {u : Nat} (hu : u < 18446744073709551616) (k : Nat) (hk : 10 ≤ k) : ints_put.f k (u : Int) = some (encB u) := by
  unfold ints_put.f
  rw [put_loop 9 u [] 0 (by have := p128; omega) (by omega) (by omega) (by simp) k (by omega)]
  rfl
theorem Put_at {n : Int} (h0 : 0 ≤ n) (h1 : n ≤ 9223372036854775807) (k : Nat) (hk : 10 ≤ k) : ints_Put.f k n = some (encB n.toNat) := by
  unfold ints_Put.f
  rw [if_neg (by omega), wrap_u64, show n % 18446744073709551616 = ((n.toNat : Nat) : Int) by omega, put_at (by omega) k hk]
  rfl
theorem Put_neg {n : Int} (h0 : n < 0) (k : Nat) : ints_Put.f k n = some (⟨#[]⟩ : ByteArray) := by
  unfold ints_Put.f
  rw [if_pos h0]
theorem PutInt_at {n : Int} (h0 : -9223372036854775808 ≤ n) (h1 : n ≤ 9223372036854775807) (k : Nat) (hk : 10 ≤ k) : ints_PutInt.f k n = some (encB (zig n)) := by
  unfold ints_PutInt.f
  rw [zig_bits n h0 h1, put_at (zig_lt h0 h1) k hk]
  rfl
theorem get_loop (s : ByteArray) (hs : s.size ≤ 140737488351232) (at' : Nat) : ∀ (d i acc : Nat), i + d = 10 → acc < 128 ^ i → at' + i ≤ s.size →
    ∀ k, 2 * d + 1 < k → ∃ res, ints_get.l0 k s (at' : Int) (acc : Int) (mn ((s.size : Int) - at') 10) (i : Int) = some res ∧
      (∀ v r, (i = 0 ∨ 0 < v) → acc + v * 128 ^ i < 18446744073709551616 → s.data.toList.drop (at' + i) = enc v ++ r → res = (((acc + v * 128 ^ i : Nat) : Int), (s.size : Int) - r.length, true)) ∧
      (res.2.2 = true → ∃ v r, (i = 0 ∨ 0 < v) ∧ acc + v * 128 ^ i < 18446744073709551616 ∧ s.data.toList.drop (at' + i) = enc v ++ r) := by
  intro d
  induction d with
  | zero =>
    intro i acc hi ha hat k hk
    obtain ⟨k, rfl⟩ : ∃ m, k = m + 1 := ⟨k - 1, by omega⟩
    obtain rfl : i = 10 := by omega
    simp only [ints_get.l0]
    rw [if_neg (by unfold mn; split <;> omega)]
    refine ⟨_, rfl, ?_, fun h => by simp at h⟩
    intro v r hv hlt _
    have := p128
    omega
  | succ d ih =>
    intro i acc hi ha hat k hk
    obtain ⟨k, rfl⟩ : ∃ m, k = m + 1 := ⟨k - 1, by omega⟩
    simp only [ints_get.l0]
    by_cases hend : at' + i < s.size
    · have hw : wrap64 ((at' : Int) + i) = ((at' + i : Nat) : Int) := by unfold wrap64; omega
      obtain ⟨c, hc, hcb, hdrop⟩ := byte_at s (at' + i) hend
      rw [if_pos (by unfold mn; split <;> omega), hw, if_pos (by omega), if_pos (by omega), hcb]
      obtain ⟨k, rfl⟩ : ∃ m, k = m + 1 := ⟨k - 1, by omega⟩
      have step : ∀ b : Bool, (b = true ↔ i = 9 ∧ 1 < c) → ∃ res, ints_get.j2 (k + 1) s (at' : Int) (acc : Int) (i : Int) (c : Int) (mn ((s.size : Int) - at') 10) (i : Int) b = some res ∧
          (∀ v r, (i = 0 ∨ 0 < v) → acc + v * 128 ^ i < 18446744073709551616 → s.data.toList.drop (at' + i) = enc v ++ r → res = (((acc + v * 128 ^ i : Nat) : Int), (s.size : Int) - r.length, true)) ∧
          (res.2.2 = true → ∃ v r, (i = 0 ∨ 0 < v) ∧ acc + v * 128 ^ i < 18446744073709551616 ∧ s.data.toList.drop (at' + i) = enc v ++ r) := by
        intro b hb
        simp only [ints_get.j2]
        rw [show wrap64 (7 * (i : Int)) = ((7 * i : Nat) : Int) by unfold wrap64; omega, and_127 _ (by omega) (by omega), wrap_u64, show (c : Int) % 128 % 18446744073709551616 = ((c % 128 : Nat) : Int) by omega]
        cases b with
        | true =>
          rw [if_pos rfl]
          refine ⟨_, rfl, ?_, fun h => by simp at h⟩
          obtain ⟨rfl, hc1⟩ := hb.1 rfl
          intro v r hv hlt hd
          exfalso
          rw [hdrop] at hd
          have hp := p128'
          by_cases hv' : v < 128
          · rw [enc_small hv'] at hd
            simp only [List.cons_append, List.nil_append, List.cons.injEq] at hd
            have := u8_inj hc (by omega) hd.1
            have : 2 * 128 ^ 9 ≤ v * 128 ^ 9 := Nat.mul_le_mul_right _ (by omega)
            omega
          · have : 128 * 128 ^ 9 ≤ v * 128 ^ 9 := Nat.mul_le_mul_right _ (by omega)
            omega
        | false =>
          rw [if_neg (by simp), if_pos (by omega)]
          have hnb : ¬ (i = 9 ∧ 1 < c) := fun h => by have := hb.2 h; cases this
          have hfit : acc + (c % 128) * 128 ^ i < 18446744073709551616 := fits ha (by omega) (by omega) hnb
          rw [lay acc (c % 128) i (by omega) ha hfit, hw, show wrap64 (((at' + i : Nat) : Int) + 1) = ((at' + i + 1 : Nat) : Int) by unfold wrap64; omega]
          by_cases hlow : c < 128
          · rw [if_pos (by omega)]
            rw [Nat.mod_eq_of_lt hlow] at *
            have hgood : (0 < c ∨ i = 0) → ∀ v r, (i = 0 ∨ 0 < v) → acc + v * 128 ^ i < 18446744073709551616 → s.data.toList.drop (at' + i) = enc v ++ r →
                ((((acc + c * 128 ^ i : Nat) : Int), ((at' + i + 1 : Nat) : Int), true) : Int × Int × Bool) = (((acc + v * 128 ^ i : Nat) : Int), (s.size : Int) - r.length, true) := by
              intro _ v r hv hlt hd
              rw [hdrop, ← List.singleton_append, ← enc_small hlow] at hd
              obtain ⟨rfl, rfl⟩ := enc_free _ _ _ _ hd
              rw [List.length_drop, data_length]
              congr 2
              omega
            by_cases hc0 : (c : Int) > 0
            · rw [if_pos hc0]
              refine ⟨_, rfl, hgood (.inl (by omega)), fun _ => ⟨c, s.data.toList.drop (at' + i + 1), .inr (by omega), hfit, ?_⟩⟩
              rw [hdrop, enc_small hlow]
              rfl
            · rw [if_neg hc0]
              refine ⟨_, rfl, ?_, ?_⟩
              · intro v r hv hlt hd
                have hd' := hd
                rw [hdrop, ← List.singleton_append, ← enc_small hlow] at hd'
                obtain ⟨rfl, rfl⟩ := enc_free _ _ _ _ hd'
                obtain rfl : i = 0 := by omega
                exact hgood (.inr rfl) _ _ (.inl rfl) hlt hd
              · intro hi0
                have hi0 : i = 0 := by simpa using hi0
                refine ⟨c, s.data.toList.drop (at' + i + 1), .inl hi0, hfit, ?_⟩
                rw [hdrop, enc_small hlow]
                rfl
          · rw [if_neg (by omega), show wrap64 ((i : Int) + 1) = ((i + 1 : Nat) : Int) by unfold wrap64; omega]
            have hi9 : i ≠ 9 := fun h => hnb ⟨h, by omega⟩
            obtain ⟨res, hr, h1, h2⟩ := ih (i + 1) (acc + c % 128 * 128 ^ i) (by omega) (by rw [Nat.pow_succ]; exact grows ha (by omega)) (by omega) k (by omega)
            refine ⟨res, hr, ?_, ?_⟩
            · intro v r hv hlt hd
              rw [hdrop] at hd
              by_cases hv' : v < 128
              · rw [enc_small hv'] at hd
                simp only [List.cons_append, List.nil_append, List.cons.injEq] at hd
                have := u8_inj hc (by omega) hd.1
                omega
              · rw [enc_big (by omega)] at hd
                simp only [List.cons_append, List.cons.injEq] at hd
                have e := u8_inj hc (by omega) hd.1
                have e2 : acc + c % 128 * 128 ^ i + v / 128 * 128 ^ (i + 1) = acc + v * 128 ^ i := parts_of (by omega)
                rw [← e2]
                exact h1 (v / 128) r (.inr (by omega)) (by omega) hd.2
            · intro ht
              obtain ⟨v, r, hv, hlt, hd⟩ := h2 ht
              have e2 : acc + c % 128 * 128 ^ i + v * 128 ^ (i + 1) = acc + (v * 128 + c % 128) * 128 ^ i := by rw [Nat.pow_succ, Nat.add_mul, Nat.mul_assoc, Nat.mul_comm (128 ^ i) 128]; omega
              refine ⟨v * 128 + c % 128, r, .inr (by omega), by omega, ?_⟩
              rw [hdrop, enc_big (by omega), show (v * 128 + c % 128) % 128 + 128 = c by omega, show (v * 128 + c % 128) / 128 = v by omega]
              rw [show at' + (i + 1) = at' + i + 1 by omega] at hd
              rw [hd]
              rfl
      by_cases h9 : (i : Int) = 9
      · rw [if_pos h9]
        refine step _ ?_
        simp only [decide_eq_true_eq]
        omega
      · rw [if_neg h9]
        refine step _ ?_
        simp only [Bool.false_eq_true, false_iff]
        omega
    · rw [if_neg (by unfold mn; split <;> omega)]
      refine ⟨_, rfl, ?_, fun h => by simp at h⟩
      intro v r hv hlt hd
      exfalso
      have := congrArg List.length hd
      rw [List.length_drop, data_length, List.length_append] at this
      have := enc_pos v
      omega
theorem get_at (s : ByteArray) (hs : s.size ≤ 140737488351232) (a : Int) (k : Nat) (hk : 23 < k) : ∃ res, ints_get.f k s a = some res ∧
    (∀ u r, StandsAt s a u r → res = ((u : Int), (s.size : Int) - r.length, true)) ∧ (res.2.2 = true → ∃ u r, StandsAt s a u r) := by
  unfold ints_get.f
  obtain ⟨k, rfl⟩ : ∃ m, k = m + 1 := ⟨k - 1, by omega⟩
  by_cases h0 : a < 0
  · rw [if_pos h0]
    simp only [ints_get.j0, if_true]
    exact ⟨_, rfl, fun u r h => by have := h.1; omega, fun h => by simp at h⟩
  · rw [if_neg h0]
    by_cases h1 : a > (s.size : Int)
    · simp only [ints_get.j0, decide_eq_true h1, if_true]
      exact ⟨_, rfl, fun u r h => by have := h.2.1; omega, fun h => by simp at h⟩
    · simp only [ints_get.j0, decide_eq_false h1, Bool.false_eq_true, if_false]
      obtain ⟨n, rfl⟩ := Int.eq_ofNat_of_zero_le (show 0 ≤ a by omega)
      rw [show wrap64 ((s.size : Int) - n) = (s.size : Int) - n by unfold wrap64; omega]
      obtain ⟨res, hr, g1, g2⟩ := get_loop s hs n 10 0 0 (by omega) (by omega) (by omega) k (by omega)
      refine ⟨res, hr, ?_, ?_⟩
      · intro u r h
        have := g1 u r (.inl rfl) (by have := h.2.2.1; omega) (by have := h.2.2.2; simpa using this)
        simpa using this
      · intro h
        obtain ⟨v, r, _, hlt, hd⟩ := g2 h
        exact ⟨v, r, by omega, by omega, by omega, by simpa using hd⟩
theorem GetInt_at (s : ByteArray) (hs : s.size ≤ 140737488351232) (a : Int) (k : Nat) (hk : 23 < k) : ints_GetInt.f k s a = some (getIntR s a) := by
  obtain ⟨⟨x, y, b⟩, hr, g1, g2⟩ := get_at s hs a k hk
  unfold ints_GetInt.f
  rw [hr]
  simp only [Option.bind_some]
  by_cases h : ∃ u r, StandsAt s a u r
  · obtain ⟨u, r, h⟩ := h
    have e := g1 u r h
    simp only [Prod.mk.injEq] at e
    obtain ⟨rfl, rfl, rfl⟩ := e
    rw [if_pos rfl, zag_bits u h.2.2.1, getIntR_yes h]
  · have e : b = false := by
      cases b with
      | false => rfl
      | true => exact absurd (g2 rfl) h
    subst e
    rw [if_neg (by simp), getIntR_no h]
theorem Get_at (s : ByteArray) (hs : s.size ≤ 140737488351232) (a : Int) (k : Nat) (hk : 23 < k) : ints_Get.f k s a = some (getR s a) := by
  obtain ⟨⟨x, y, b⟩, hr, g1, g2⟩ := get_at s hs a k hk
  unfold ints_Get.f
  rw [hr]
  simp only [Option.bind_some]
  by_cases h : ∃ u r, StandsAt s a u r
  · obtain ⟨u, r, h⟩ := h
    have e := g1 u r h
    simp only [Prod.mk.injEq] at e
    obtain ⟨rfl, rfl, rfl⟩ := e
    rw [if_pos rfl]
    by_cases hm : u ≤ 9223372036854775807
    · rw [if_neg (by omega), getR_yes h hm, show wrap64 (u : Int) = u by unfold wrap64; omega]
    · rw [if_pos (by omega), getR_big h (by omega)]
  · have e : b = false := by
      cases b with
      | false => rfl
      | true => exact absurd (g2 rfl) h
    subst e
    rw [if_neg (by simp), getR_no h]
theorem does_30 : carousellaw01_does.f 30 = some true := by decide +kernel
theorem does_at {k : Nat} (hk : 30 ≤ k) : carousellaw01_does.f k = some true := at_rounds (g := carousellaw01_does.f) carousellaw01_does.mono hk does_30
theorem no_enc_nil {u : Nat} : ¬ (encB u).toList = ([] : List UInt8) := by rw [encB_toList]; exact enc_ne u
theorem cut_none {u j : Nat} (hj : j < (enc u).length) : ¬ ∃ v r, StandsAt ((encB u).extract 0 j) 0 v r := by
  rintro ⟨v, r, _, _, _, h⟩
  rw [ByteArray.data_extract, Array.toList_extract] at h
  exact enc_cut (u := u) (v := v) (r := r) hj (by simpa [encB] using h)
theorem extract_size (u j : Nat) : ((encB u).extract 0 j).size ≤ (enc u).length := by
  rw [ByteArray.size_extract, encB_size]
  omega
theorem IntsCut : carousellaw01_IntsCut.Pure := by
  intro n c hn hc
  obtain ⟨n0, n1⟩ := bounds_i64 hn
  obtain ⟨c0, c1⟩ := bounds_u8 hc
  obtain ⟨c, rfl⟩ := Int.eq_ofNat_of_zero_le c0
  refine ⟨40, ?_⟩
  have hz := zig_lt n0 n1
  have hl := enc_len10 hz
  have hp := enc_pos (zig n)
  have hm := tmod_nat c (enc (zig n)).length
  have hlt : c % (enc (zig n)).length < (enc (zig n)).length := Nat.mod_lt _ (by omega)
  have hx := extract_size (zig n) (c % (enc (zig n)).length)
  unfold carousellaw01_IntsCut.f
  rw [PutInt_at n0 n1 40 (by omega), show wrap64 (c : Int) = c by unfold wrap64; omega]
  by_cases h : n < 0
  · rw [Put_neg h]
    simp only [Option.bind_some, encB_size]
    rw [if_neg no_enc_nil, if_neg (by omega), hm, if_pos (by omega), if_pos (by omega), Int.toNat_natCast, GetInt_at _ (by omega) 0 40 (by omega), getIntR_no (cut_none hlt)]
    simp only [Option.bind_some]
    rw [if_pos (by rw [Lib.toList_data]), if_neg (by simp), does_at (by omega)]
    rfl
  · rw [Put_at (by omega) n1 40 (by omega)]
    simp only [Option.bind_some, encB_size]
    have hl' := enc_len10 (u := n.toNat) (by omega)
    have hp' := enc_pos n.toNat
    have hm' := tmod_nat c (enc n.toNat).length
    have hlt' : c % (enc n.toNat).length < (enc n.toNat).length := Nat.mod_lt _ (by omega)
    have hx' := extract_size n.toNat (c % (enc n.toNat).length)
    rw [if_neg no_enc_nil, if_neg (by omega), hm, if_pos (by omega), if_pos (by omega), Int.toNat_natCast, GetInt_at _ (by omega) 0 40 (by omega), getIntR_no (cut_none hlt)]
    simp only [Option.bind_some]
    rw [if_neg no_enc_nil, if_neg (by omega), hm', if_pos (by omega), if_pos (by omega), Int.toNat_natCast, Get_at _ (by omega) 0 40 (by omega), getR_no (cut_none hlt')]
    simp only [Option.bind_some]
    rw [if_neg (by simp), if_neg (by simp), does_at (by omega)]
    rfl
end Go.Proofs.Ytcffpbldphmpoaa.Pure
