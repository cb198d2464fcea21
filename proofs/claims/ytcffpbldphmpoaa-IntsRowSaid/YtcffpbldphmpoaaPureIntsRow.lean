/- Numbers that are put one behind the other are got one behind the other, up to the end; unlike ones have unlike bytes. No condition. -/
import Derived.Test.YtcffpbldphmpoaaPIntsRowx3
import Derived.Test.YtcffpbldphmpoaaMa
namespace Go.Proofs.Ytcffpbldphmpoaa.Pure
open Go.RowKit Go.Proofs.Ytcffpbldphmpoaa.PIntsRow Go.Proofs.YtcffpbldphmpoaaW.PrintWords Go.Proofs.YtcffpbldphmpoaaW.PrintLast Go.Proofs.YtcffpbldphmpoaaW.PrintMore Go.Proofs.Ytcffpbldphmpoaa.Ma
set_option linter.unusedVariables false
set_option linter.unusedSimpArgs false
/-! ### ints: what put and get tell -/
theorem put_loop : ∀ (d u : Nat) (acc : List Int) (i : Int), u < 128 ^ (d + 1) → 0 ≤ i → i + d ≤ 9 → acc.length ≤ i → ∀ k, d < k →
    ints_put.l0 k (u : Int) acc i = some ⟨(acc.map (fun n => UInt8.ofNat n.toNat) ++ enc u).toArray⟩ := by
  intro d
  induction d with
  | zero =>
    intro u acc i hu h0 hi ha k hk
    obtain ⟨k, rfl⟩ : ∃ m, k = m + 1 := ⟨k - 1, by omega⟩
    simp only [ints_put.l0]
    rw [if_pos (by omega), if_pos (by omega), if_pos (by omega), enc_small (by omega)]
    simp only [strOfNums, List.map_append, List.map_cons, List.map_nil]
    congr 6
    omega
  | succ d ih =>
    intro u acc i hu h0 hi ha k hk
    obtain ⟨k, rfl⟩ : ∃ m, k = m + 1 := ⟨k - 1, by omega⟩
    simp only [ints_put.l0]
    by_cases h : u < 128
    · rw [if_pos (by omega), if_pos (by omega), if_pos (by omega), enc_small (by omega)]
      simp only [strOfNums, List.map_append, List.map_cons, List.map_nil]
      congr 6
      omega
    · rw [if_pos (by omega), if_neg (by omega), if_pos (by omega), show wrap64 (i + 1) = i + 1 by unfold wrap64; omega, show ((u : Int) / 128) = ((u / 128 : Nat) : Int) by omega]
      rw [ih (u / 128) _ (i + 1) (by rw [Nat.div_lt_iff_lt_mul (by omega)]; rw [Nat.pow_succ] at hu; exact hu) (by omega) (by omega) (by simp; omega) k (by omega), enc_big (u := u) (by omega), or_128]
      simp only [List.map_append, List.map_cons, List.map_nil, List.append_assoc, List.cons_append, List.nil_append, Int.toNat_natCast]
theorem put_at {u : Nat} (hu : u < 18446744073709551616) (k : Nat) (hk : 10 ≤ k) : ints_put.f k (u : Int) = some (encB u) := by
  unfold ints_put.f
  rw [put_loop 9 u [] 0 (by have := p128; omega) (by omega) (by omega) (by simp) k (by omega)]
  rfl
theorem Put_at {n : Int} (h0 : 0 ≤ n) (h1 : n ≤ 9223372036854775807) (k : Nat) (hk : 10 ≤ k) : ints_Put.f k n = some (encB n.toNat) := by
  unfold ints_Put.f
  rw [if_neg (by omega), wrap_u64, show n % 18446744073709551616 = ((n.toNat : Nat) : Int) by omega, put_at (by omega) k hk]
  rfl
theorem Put_neg {n : Int} (h0 : n < 0) (k : Nat) : ints_Put.f k n = some (⟨#[]⟩ : ByteArray) := by
  unfold ints_Put.f
  rw [if_pos h0]
theorem PutInt_at {n : Int} (h0 : -9223372036854775808 ≤ n) (h1 : n ≤ 9223372036854775807) (k : Nat) (hk : 10 ≤ k) : ints_PutInt.f k n = some (encB (zig n)) := by
  unfold ints_PutInt.f
  rw [zig_bits n h0 h1, put_at (zig_lt h0 h1) k hk]
  rfl
theorem get_loop (s : ByteArray) (hs : s.size ≤ 140737488351232) (at' : Nat) : ∀ (d i acc : Nat), i + d = 10 → acc < 128 ^ i → at' + i ≤ s.size →
    ∀ k, 2 * d + 1 < k → ∃ res, ints_get.l0 k s (at' : Int) (acc : Int) (mn ((s.size : Int) - at') 10) (i : Int) = some res ∧
      (∀ v r, (i = 0 ∨ 0 < v) → acc + v * 128 ^ i < 18446744073709551616 → s.data.toList.drop (at' + i) = enc v ++ r → res = (((acc + v * 128 ^ i : Nat) : Int), (s.size : Int) - r.length, true)) ∧
      (res.2.2 = true → ∃ v r, (i = 0 ∨ 0 < v) ∧ acc + v * 128 ^ i < 18446744073709551616 ∧ s.data.toList.drop (at' + i) = enc v ++ r) := by
  intro d
  induction d with
  | zero =>
    intro i acc hi ha hat k hk
    obtain ⟨k, rfl⟩ : ∃ m, k = m + 1 := ⟨k - 1, by omega⟩
    obtain rfl : i = 10 := by omega
    simp only [ints_get.l0]
    rw [if_neg (by unfold mn; split <;> omega)]
    refine ⟨_, rfl, ?_, fun h => by simp at h⟩
    intro v r hv hlt _
    have := p128
    omega
  | succ d ih =>
    intro i acc hi ha hat k hk
    obtain ⟨k, rfl⟩ : ∃ m, k = m + 1 := ⟨k - 1, by omega⟩
    simp only [ints_get.l0]
    by_cases hend : at' + i < s.size
    · have hw : wrap64 ((at' : Int) + i) = ((at' + i : Nat) : Int) := by unfold wrap64; omega
      obtain ⟨c, hc, hcb, hdrop⟩ := byte_at s (at' + i) hend
      rw [if_pos (by unfold mn; split <;> omega), hw, if_pos (by omega), if_pos (by omega), hcb]
      obtain ⟨k, rfl⟩ : ∃ m, k = m + 1 := ⟨k - 1, by omega⟩
      have step : ∀ b : Bool, (b = true ↔ i = 9 ∧ 1 < c) → ∃ res, ints_get.j2 (k + 1) s (at' : Int) (acc : Int) (i : Int) (c : Int) (mn ((s.size : Int) - at') 10) (i : Int) b = some res ∧
          (∀ v r, (i = 0 ∨ 0 < v) → acc + v * 128 ^ i < 18446744073709551616 → s.data.toList.drop (at' + i) = enc v ++ r → res = (((acc + v * 128 ^ i : Nat) : Int), (s.size : Int) - r.length, true)) ∧
          (res.2.2 = true → ∃ v r, (i = 0 ∨ 0 < v) ∧ acc + v * 128 ^ i < 18446744073709551616 ∧ s.data.toList.drop (at' + i) = enc v ++ r) := by
        intro b hb
        simp only [ints_get.j2]
        rw [show wrap64 (7 * (i : Int)) = ((7 * i : Nat) : Int) by unfold wrap64; omega, and_127 _ (by omega) (by omega), wrap_u64, show (c : Int) % 128 % 18446744073709551616 = ((c % 128 : Nat) : Int) by omega]
        cases b with
        | true =>
          rw [if_pos rfl]
          refine ⟨_, rfl, ?_, fun h => by simp at h⟩
          obtain ⟨rfl, hc1⟩ := hb.1 rfl
          intro v r hv hlt hd
          exfalso
          rw [hdrop] at hd
          have hp := p128'
          by_cases hv' : v < 128
          · rw [enc_small hv'] at hd
            simp only [List.cons_append, List.nil_append, List.cons.injEq] at hd
            have := u8_inj hc (by omega) hd.1
            have : 2 * 128 ^ 9 ≤ v * 128 ^ 9 := Nat.mul_le_mul_right _ (by omega)
            omega
          · have : 128 * 128 ^ 9 ≤ v * 128 ^ 9 := Nat.mul_le_mul_right _ (by omega)
            omega
        | false =>
          rw [if_neg (by simp), if_pos (by omega)]
          have hnb : ¬ (i = 9 ∧ 1 < c) := fun h => by have := hb.2 h; cases this
          have hfit : acc + (c % 128) * 128 ^ i < 18446744073709551616 := fits ha (by omega) (by omega) hnb
          rw [lay acc (c % 128) i (by omega) ha hfit, hw, show wrap64 (((at' + i : Nat) : Int) + 1) = ((at' + i + 1 : Nat) : Int) by unfold wrap64; omega]
          by_cases hlow : c < 128
          · rw [if_pos (by omega)]
            rw [Nat.mod_eq_of_lt hlow] at *
            have hgood : (0 < c ∨ i = 0) → ∀ v r, (i = 0 ∨ 0 < v) → acc + v * 128 ^ i < 18446744073709551616 → s.data.toList.drop (at' + i) = enc v ++ r →
                ((((acc + c * 128 ^ i : Nat) : Int), ((at' + i + 1 : Nat) : Int), true) : Int × Int × Bool) = (((acc + v * 128 ^ i : Nat) : Int), (s.size : Int) - r.length, true) := by
              intro _ v r hv hlt hd
              rw [hdrop, ← List.singleton_append, ← enc_small hlow] at hd
              obtain ⟨rfl, rfl⟩ := enc_free _ _ _ _ hd
              rw [List.length_drop, data_length]
              congr 2
              omega
            by_cases hc0 : (c : Int) > 0
            · rw [if_pos hc0]
              refine ⟨_, rfl, hgood (.inl (by omega)), fun _ => ⟨c, s.data.toList.drop (at' + i + 1), .inr (by omega), hfit, ?_⟩⟩
              rw [hdrop, enc_small hlow]
              rfl
            · rw [if_neg hc0]
              refine ⟨_, rfl, ?_, ?_⟩
              · intro v r hv hlt hd
                have hd' := hd
                rw [hdrop, ← List.singleton_append, ← enc_small hlow] at hd'
                obtain ⟨rfl, rfl⟩ := enc_free _ _ _ _ hd'
                obtain rfl : i = 0 := by omega
                exact hgood (.inr rfl) _ _ (.inl rfl) hlt hd
              · intro hi0
                have hi0 : i = 0 := by simpa using hi0
                refine ⟨c, s.data.toList.drop (at' + i + 1), .inl hi0, hfit, ?_⟩
                rw [hdrop, enc_small hlow]
                rfl
          · rw [if_neg (by omega), show wrap64 ((i : Int) + 1) = ((i + 1 : Nat) : Int) by unfold wrap64; omega]
            have hi9 : i ≠ 9 := fun h => hnb ⟨h, by omega⟩
            obtain ⟨res, hr, h1, h2⟩ := ih (i + 1) (acc + c % 128 * 128 ^ i) (by omega) (by rw [Nat.pow_succ]; exact grows ha (by omega)) (by omega) k (by omega)
            refine ⟨res, hr, ?_, ?_⟩
            · intro v r hv hlt hd
              rw [hdrop] at hd
              by_cases hv' : v < 128
              · rw [enc_small hv'] at hd
                simp only [List.cons_append, List.nil_append, List.cons.injEq] at hd
                have := u8_inj hc (by omega) hd.1
                omega
              · rw [enc_big (by omega)] at hd
                simp only [List.cons_append, List.cons.injEq] at hd
                have e := u8_inj hc (by omega) hd.1
                have e2 : acc + c % 128 * 128 ^ i + v / 128 * 128 ^ (i + 1) = acc + v * 128 ^ i := parts_of (by omega)
                rw [← e2]
                exact h1 (v / 128) r (.inr (by omega)) (by omega) hd.2
            · intro ht
              obtain ⟨v, r, hv, hlt, hd⟩ := h2 ht
              have e2 : acc + c % 128 * 128 ^ i + v * 128 ^ (i + 1) = acc + (v * 128 + c % 128) * 128 ^ i := by rw [Nat.pow_succ, Nat.add_mul, Nat.mul_assoc, Nat.mul_comm (128 ^ i) 128]; omega
              refine ⟨v * 128 + c % 128, r, .inr (by omega), by omega, ?_⟩
              rw [hdrop, enc_big (by omega), show (v * 128 + c % 128) % 128 + 128 = c by omega, show (v * 128 + c % 128) / 128 = v by omega]
              rw [show at' + (i + 1) = at' + i + 1 by omega] at hd
              rw [hd]
              rfl
      by_cases h9 : (i : Int) = 9
      · rw [if_pos h9]
        refine step _ ?_
        simp only [decide_eq_true_eq]
        omega
      · rw [if_neg h9]
        refine step _ ?_
        simp only [Bool.false_eq_true, false_iff]
        omega
    · rw [if_neg (by unfold mn; split <;> omega)]
      refine ⟨_, rfl, ?_, fun h => by simp at h⟩
      intro v r hv hlt hd
      exfalso
      have := congrArg List.length hd
      rw [List.length_drop, data_length, List.length_append] at this
      have := enc_pos v
      omega
theorem get_at (s : ByteArray) (hs : s.size ≤ 140737488351232) (a : Int) (k : Nat) (hk : 23 < k) : ∃ res, ints_get.f k s a = some res ∧
    (∀ u r, StandsAt s a u r → res = ((u : Int), (s.size : Int) - r.length, true)) ∧ (res.2.2 = true → ∃ u r, StandsAt s a u r) := by
  unfold ints_get.f
  obtain ⟨k, rfl⟩ : ∃ m, k = m + 1 := ⟨k - 1, by omega⟩
  by_cases h0 : a < 0
  · rw [if_pos h0]
    simp only [ints_get.j0, if_true]
    exact ⟨_, rfl, fun u r h => by have := h.1; omega, fun h => by simp at h⟩
  · rw [if_neg h0]
    by_cases h1 : a > (s.size : Int)
    · simp only [ints_get.j0, decide_eq_true h1, if_true]
      exact ⟨_, rfl, fun u r h => by have := h.2.1; omega, fun h => by simp at h⟩
    · simp only [ints_get.j0, decide_eq_false h1, Bool.false_eq_true, if_false]
      obtain ⟨n, rfl⟩ := Int.eq_ofNat_of_zero_le (show 0 ≤ a by omega)
      rw [show wrap64 ((s.size : Int) - n) = (s.size : Int) - n by unfold wrap64; omega]
      obtain ⟨res, hr, g1, g2⟩ := get_loop s hs n 10 0 0 (by omega) (by omega) (by omega) k (by omega)
      refine ⟨res, hr, ?_, ?_⟩
      · intro u r h
        have := g1 u r (.inl rfl) (by have := h.2.2.1; omega) (by have := h.2.2.2; simpa using this)
        simpa using this
      · intro h
        obtain ⟨v, r, _, hlt, hd⟩ := g2 h
        exact ⟨v, r, by omega, by omega, by omega, by simpa using hd⟩
theorem GetInt_at (s : ByteArray) (hs : s.size ≤ 140737488351232) (a : Int) (k : Nat) (hk : 23 < k) : ints_GetInt.f k s a = some (getIntR s a) := by
  obtain ⟨⟨x, y, b⟩, hr, g1, g2⟩ := get_at s hs a k hk
  unfold ints_GetInt.f
  rw [hr]
  simp only [Option.bind_some]
  by_cases h : ∃ u r, StandsAt s a u r
  · obtain ⟨u, r, h⟩ := h
    have e := g1 u r h
    simp only [Prod.mk.injEq] at e
    obtain ⟨rfl, rfl, rfl⟩ := e
    rw [if_pos rfl, zag_bits u h.2.2.1, getIntR_yes h]
  · have e : b = false := by
      cases b with
      | false => rfl
      | true => exact absurd (g2 rfl) h
    subst e
    rw [if_neg (by simp), getIntR_no h]
theorem Get_at (s : ByteArray) (hs : s.size ≤ 140737488351232) (a : Int) (k : Nat) (hk : 23 < k) : ints_Get.f k s a = some (getR s a) := by
  obtain ⟨⟨x, y, b⟩, hr, g1, g2⟩ := get_at s hs a k hk
  unfold ints_Get.f
  rw [hr]
  simp only [Option.bind_some]
  by_cases h : ∃ u r, StandsAt s a u r
  · obtain ⟨u, r, h⟩ := h
    have e := g1 u r h
    simp only [Prod.mk.injEq] at e
    obtain ⟨rfl, rfl, rfl⟩ := e
    rw [if_pos rfl]
    by_cases hm : u ≤ 9223372036854775807
    · rw [if_neg (by omega), getR_yes h hm, show wrap64 (u : Int) = u by unfold wrap64; omega]
    · rw [if_pos (by omega), getR_big h (by omega)]
  · have e : b = false := by
      cases b with
      | false => rfl
      | true => exact absurd (g2 rfl) h
    subst e
    rw [if_neg (by simp), getR_no h]
theorem does_30 : carousellaw01_does.f 30 = some true := by decide +kernel
theorem does_at {k : Nat} (hk : 30 ≤ k) : carousellaw01_does.f k = some true := at_rounds (g := carousellaw01_does.f) carousellaw01_does.mono hk does_30
def cat (l : List Int) : List UInt8 := l.flatMap fun n => enc (zig n)
theorem cat_nil : cat [] = [] := rfl
theorem cat_cons (n : Int) (l : List Int) : cat (n :: l) = enc (zig n) ++ cat l := by simp [cat]
theorem cat_snoc (l : List Int) (n : Int) : cat (l ++ [n]) = cat l ++ enc (zig n) := by simp [cat]
theorem cat_app (l m : List Int) : cat (l ++ m) = cat l ++ cat m := by simp [cat]
theorem cat_len (l : List Int) (hl : ∀ x ∈ l, -9223372036854775808 ≤ x ∧ x ≤ 9223372036854775807) : (cat l).length ≤ 10 * l.length := by
  induction l with
  | nil => simp [cat]
  | cons n l ih =>
    rw [cat_cons, List.length_append, List.length_cons]
    have := ih (fun x hx => hl x (List.mem_cons_of_mem _ hx))
    have hn := hl n List.mem_cons_self
    have := enc_len10 (zig_lt hn.1 hn.2)
    omega
theorem rd_at (l : List Int) (i : Nat) (h : i < l.length) : rd l (i : Int) = l[i] := by simp [rd, List.getD, h]
theorem take_snoc (l : List Int) (i : Nat) (h : i < l.length) : l.take (i + 1) = l.take i ++ [l[i]] := by rw [List.take_succ_eq_append_getElem h]
theorem drop_at (l : List Int) (i : Nat) (h : i < l.length) : l.drop i = l[i] :: l.drop (i + 1) := by rw [List.drop_eq_getElem_cons h]
theorem row_l1 (l : List Int) (hn : l.length ≤ 100) (hl : ∀ x ∈ l, -9223372036854775808 ≤ x ∧ x ≤ 9223372036854775807) (d : Nat) : ∀ i : Nat, i + d = l.length → ∀ k, d + 31 < k →
    carousellaw01_IntsRow.l1 k l ⟨(cat l).toArray⟩ ((cat (l.take i)).length : Int) (i : Int) = some true := by
  have hcl := cat_len l hl
  have hsz : (⟨(cat l).toArray⟩ : ByteArray).size = (cat l).length := rfl
  induction d with
  | zero =>
    intro i hi k hk
    obtain ⟨k, rfl⟩ : ∃ j, k = j + 1 := ⟨k - 1, by omega⟩
    simp only [carousellaw01_IntsRow.l1]
    rw [if_neg (by omega), List.take_of_length_le (by omega), GetInt_at _ (by omega) _ k (by omega), getIntR_no]
    · simp only [Option.bind_some]
      rw [if_pos (by rw [hsz]), if_neg (by simp), does_at (by omega)]
      rfl
    · rintro ⟨v, r, _, _, _, h⟩
      have := congrArg List.length h
      rw [List.length_drop, List.length_append, Int.toNat_natCast] at this
      have := enc_pos v
      simp only [hsz, List.toList_toArray] at *
      omega
  | succ d ih =>
    intro i hi k hk
    obtain ⟨k, rfl⟩ : ∃ j, k = j + 1 := ⟨k - 1, by omega⟩
    have hlt : i < l.length := by omega
    have hcat : cat l = cat (l.take i) ++ (enc (zig l[i]) ++ cat (l.drop (i + 1))) := by
      conv => lhs; rw [← List.take_append_drop i l, drop_at l i hlt]
      rw [← cat_cons, ← cat_app]
    have hmem := hl l[i] (List.getElem_mem hlt)
    have hat : StandsAt ⟨(cat l).toArray⟩ ((cat (l.take i)).length : Int) (zig l[i]) (cat (l.drop (i + 1))) := by
      refine ⟨by omega, ?_, zig_lt hmem.1 hmem.2, ?_⟩
      · rw [hsz, hcat, List.length_append]; omega
      · rw [Int.toNat_natCast]
        show (cat l).drop _ = _
        conv => lhs; rw [hcat]
        rw [List.drop_left]
    simp only [carousellaw01_IntsRow.l1]
    rw [if_pos (by omega), GetInt_at _ (by omega) _ k (by omega), getIntR_yes hat]
    simp only [Option.bind_some]
    rw [if_true, if_pos (by omega), rd_at l i hlt, zag_zig, if_pos rfl, hat.len, show wrap64 ((i : Int) + 1) = ((i + 1 : Nat) : Int) by unfold wrap64; omega]
    have := ih (i + 1) (by omega) k (by omega)
    rw [take_snoc l i hlt, cat_snoc, List.length_append] at this
    exact_mod_cast this
theorem row_l0 (l : List Int) (hn : l.length ≤ 100) (hl : ∀ x ∈ l, -9223372036854775808 ≤ x ∧ x ≤ 9223372036854775807) (d : Nat) : ∀ i : Nat, i + d = l.length → ∀ k, d + l.length + 40 < k →
    carousellaw01_IntsRow.l0 k l ⟨(cat (l.take i)).toArray⟩ (i : Int) = some true := by
  induction d with
  | zero =>
    intro i hi k hk
    obtain ⟨k, rfl⟩ : ∃ j, k = j + 1 := ⟨k - 1, by omega⟩
    simp only [carousellaw01_IntsRow.l0]
    rw [if_neg (by omega), List.take_of_length_le (by omega)]
    exact row_l1 l hn hl l.length 0 (by omega) k (by omega)
  | succ d ih =>
    intro i hi k hk
    obtain ⟨k, rfl⟩ : ∃ j, k = j + 1 := ⟨k - 1, by omega⟩
    have hlt : i < l.length := by omega
    have hmem := hl l[i] (List.getElem_mem hlt)
    have hsz : (⟨(cat (l.take i)).toArray⟩ : ByteArray).size ≤ 1000 := by
      have := cat_len (l.take i) (fun x hx => hl x (List.mem_of_mem_take hx))
      rw [List.length_take] at this
      show (cat (l.take i)).length ≤ 1000
      omega
    have hl10 := enc_len10 (zig_lt hmem.1 hmem.2)
    have hnext := ih (i + 1) (by omega) k (by omega)
    rw [take_snoc l i hlt, cat_snoc] at hnext
    have happ : (⟨(cat (l.take i)).toArray⟩ : ByteArray) ++ encB (zig l[i]) = ⟨(cat (l.take i) ++ enc (zig l[i])).toArray⟩ := by
      apply ByteArray.ext
      rw [ByteArray.data_append]
      simp [encB]
    simp only [carousellaw01_IntsRow.l0]
    rw [if_pos (by omega), if_pos (by omega), rd_at l i hlt, PutInt_at hmem.1 hmem.2 k (by omega)]
    simp only [Option.bind_some, encB_size]
    rw [if_pos (by omega), show wrap64 ((i : Int) + 1) = ((i + 1 : Nat) : Int) by unfold wrap64; omega, happ]
    by_cases hi0 : (i : Int) > 0
    · have hmem' := hl l[i - 1] (List.getElem_mem (by omega))
      rw [if_pos hi0, show wrap64 ((i : Int) - 1) = ((i - 1 : Nat) : Int) by unfold wrap64; omega, if_pos (by omega), if_pos (by omega), rd_at l (i - 1) (by omega), PutInt_at hmem'.1 hmem'.2 k (by omega)]
      simp only [Option.bind_some, encB_toList]
      have e : (enc (zig l[i]) == enc (zig l[i - 1])) = (l[i] == l[i - 1]) := by
        rw [Bool.eq_iff_iff, beq_iff_eq, beq_iff_eq]
        exact ⟨fun h => zig_inj (enc_inj h), fun h => by rw [h]⟩
      rw [e, if_neg (by simp)]
      exact hnext
    · rw [if_neg hi0]
      exact hnext
theorem IntsRow : carousellaw01_IntsRow.Pure := by
  intro l _ _ hl
  by_cases h : (l.length : Int) > 100
  · exact ⟨0, by unfold carousellaw01_IntsRow.f; rw [if_pos h]⟩
  · refine ⟨400, ?_⟩
    unfold carousellaw01_IntsRow.f
    rw [if_neg h]
    exact row_l0 l (by omega) (fun x hx => bounds_i64 (hl x hx)) l.length 0 (by omega) 400 (by omega)
end Go.Proofs.Ytcffpbldphmpoaa.Pure
