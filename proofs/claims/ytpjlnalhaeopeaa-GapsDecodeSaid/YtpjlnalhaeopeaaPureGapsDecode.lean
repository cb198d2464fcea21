/- The list that stands at any place of any bytes is the reference's, or there is none. No condition. -/
import Derived.Test.YtpjlnalhaeopeaaQGapsDecodex4
import Derived.Test.YtpjlnalhaeopeaaMa
import Derived.Test.YtpjlnalhaeopeaaEncode
import Derived.Test.YtpjlnalhaeopeaaMb
namespace Go.Proofs.Ytpjlnalhaeopeaa.Pure
open Go.RowKit Go.Proofs.Ytpjlnalhaeopeaa.QGapsDecode Go.Proofs.YtpjlnalhaeopeaaW.PrintWords Go.Proofs.YtpjlnalhaeopeaaW.PrintLast Go.Proofs.YtpjlnalhaeopeaaW.PrintMore Go.Proofs.Ytpjlnalhaeopeaa.Ma Go.Proofs.Ytpjlnalhaeopeaa.Enc Go.Proofs.Ytpjlnalhaeopeaa.Mb
set_option linter.unusedVariables false
set_option linter.unusedSimpArgs false
theorem get_loop (s : ByteArray) (hs : s.size ≤ 140737488351232) (at' : Nat) : ∀ (d i acc : Nat), i + d = 10 → acc < 128 ^ i → at' + i ≤ s.size →
    ∀ k, 2 * d + 1 < k → ∃ res, ints_get.l0 k s (at' : Int) (acc : Int) (mn ((s.size : Int) - at') 10) (i : Int) = some res ∧
      (∀ v r, (i = 0 ∨ 0 < v) → acc + v * 128 ^ i < 18446744073709551616 → s.data.toList.drop (at' + i) = enc v ++ r → res = (((acc + v * 128 ^ i : Nat) : Int), (s.size : Int) - r.length, true)) ∧
      (res.2.2 = true → ∃ v r, (i = 0 ∨ 0 < v) ∧ acc + v * 128 ^ i < 18446744073709551616 ∧ s.data.toList.drop (at' + i) = enc v ++ r) := by
  intro d
  induction d with
  | zero =>
    intro i acc hi ha hat k hk
    obtain ⟨k, rfl⟩ : ∃ m, k = m + 1 := ⟨k - 1, by omega⟩
    obtain rfl : i = 10 := by omega
    simp only [ints_get.l0]
    rw [if_neg (by unfold mn; split <;> omega)]
    refine ⟨_, rfl, ?_, fun h => by simp at h⟩
    intro v r hv hlt _
    have := p128
    omega
  | succ d ih =>
    intro i acc hi ha hat k hk
    obtain ⟨k, rfl⟩ : ∃ m, k = m + 1 := ⟨k - 1, by omega⟩
    simp only [ints_get.l0]
    by_cases hend : at' + i < s.size
    · have hw : wrap64 ((at' : Int) + i) = ((at' + i : Nat) : Int) := by unfold wrap64; omega
      obtain ⟨c, hc, hcb, hdrop⟩ := byte_at s (at' + i) hend
      rw [if_pos (by unfold mn; split <;> omega), hw, if_pos (by omega), if_pos (by omega), hcb]
      obtain ⟨k, rfl⟩ : ∃ m, k = m + 1 := ⟨k - 1, by omega⟩
      have step : ∀ b : Bool, (b = true ↔ i = 9 ∧ 1 < c) → ∃ res, ints_get.j2 (k + 1) s (at' : Int) (acc : Int) (i : Int) (c : Int) (mn ((s.size : Int) - at') 10) (i : Int) b = some res ∧
          (∀ v r, (i = 0 ∨ 0 < v) → acc + v * 128 ^ i < 18446744073709551616 → s.data.toList.drop (at' + i) = enc v ++ r → res = (((acc + v * 128 ^ i : Nat) : Int), (s.size : Int) - r.length, true)) ∧
          (res.2.2 = true → ∃ v r, (i = 0 ∨ 0 < v) ∧ acc + v * 128 ^ i < 18446744073709551616 ∧ s.data.toList.drop (at' + i) = enc v ++ r) := by
        intro b hb
        simp only [ints_get.j2]
        rw [show wrap64 (7 * (i : Int)) = ((7 * i : Nat) : Int) by unfold wrap64; omega, and_127 _ (by omega) (by omega), wrap_u64, show (c : Int) % 128 % 18446744073709551616 = ((c % 128 : Nat) : Int) by omega]
        cases b with
        | true =>
          rw [if_pos rfl]
          refine ⟨_, rfl, ?_, fun h => by simp at h⟩
          obtain ⟨rfl, hc1⟩ := hb.1 rfl
          intro v r hv hlt hd
          exfalso
          rw [hdrop] at hd
          have hp := p128'
          by_cases hv' : v < 128
          · rw [enc_small hv'] at hd
            simp only [List.cons_append, List.nil_append, List.cons.injEq] at hd
            have := u8_inj hc (by omega) hd.1
            have : 2 * 128 ^ 9 ≤ v * 128 ^ 9 := Nat.mul_le_mul_right _ (by omega)
            omega
          · have : 128 * 128 ^ 9 ≤ v * 128 ^ 9 := Nat.mul_le_mul_right _ (by omega)
            omega
        | false =>
          rw [if_neg (by simp), if_pos (by omega)]
          have hnb : ¬ (i = 9 ∧ 1 < c) := fun h => by have := hb.2 h; cases this
          have hfit : acc + (c % 128) * 128 ^ i < 18446744073709551616 := fits ha (by omega) (by omega) hnb
          rw [lay acc (c % 128) i (by omega) ha hfit, hw, show wrap64 (((at' + i : Nat) : Int) + 1) = ((at' + i + 1 : Nat) : Int) by unfold wrap64; omega]
          by_cases hlow : c < 128
          · rw [if_pos (by omega)]
            rw [Nat.mod_eq_of_lt hlow] at *
            have hgood : (0 < c ∨ i = 0) → ∀ v r, (i = 0 ∨ 0 < v) → acc + v * 128 ^ i < 18446744073709551616 → s.data.toList.drop (at' + i) = enc v ++ r →
                ((((acc + c * 128 ^ i : Nat) : Int), ((at' + i + 1 : Nat) : Int), true) : Int × Int × Bool) = (((acc + v * 128 ^ i : Nat) : Int), (s.size : Int) - r.length, true) := by
              intro _ v r hv hlt hd
              rw [hdrop, ← List.singleton_append, ← enc_small hlow] at hd
              obtain ⟨rfl, rfl⟩ := enc_free _ _ _ _ hd
              rw [List.length_drop, data_length]
              congr 2
              omega
            by_cases hc0 : (c : Int) > 0
            · rw [if_pos hc0]
              refine ⟨_, rfl, hgood (.inl (by omega)), fun _ => ⟨c, s.data.toList.drop (at' + i + 1), .inr (by omega), hfit, ?_⟩⟩
              rw [hdrop, enc_small hlow]
              rfl
            · rw [if_neg hc0]
              refine ⟨_, rfl, ?_, ?_⟩
              · intro v r hv hlt hd
                have hd' := hd
                rw [hdrop, ← List.singleton_append, ← enc_small hlow] at hd'
                obtain ⟨rfl, rfl⟩ := enc_free _ _ _ _ hd'
                obtain rfl : i = 0 := by omega
                exact hgood (.inr rfl) _ _ (.inl rfl) hlt hd
              · intro hi0
                have hi0 : i = 0 := by simpa using hi0
                refine ⟨c, s.data.toList.drop (at' + i + 1), .inl hi0, hfit, ?_⟩
                rw [hdrop, enc_small hlow]
                rfl
          · rw [if_neg (by omega), show wrap64 ((i : Int) + 1) = ((i + 1 : Nat) : Int) by unfold wrap64; omega]
            have hi9 : i ≠ 9 := fun h => hnb ⟨h, by omega⟩
            obtain ⟨res, hr, h1, h2⟩ := ih (i + 1) (acc + c % 128 * 128 ^ i) (by omega) (by rw [Nat.pow_succ]; exact grows ha (by omega)) (by omega) k (by omega)
            refine ⟨res, hr, ?_, ?_⟩
            · intro v r hv hlt hd
              rw [hdrop] at hd
              by_cases hv' : v < 128
              · rw [enc_small hv'] at hd
                simp only [List.cons_append, List.nil_append, List.cons.injEq] at hd
                have := u8_inj hc (by omega) hd.1
                omega
              · rw [enc_big (by omega)] at hd
                simp only [List.cons_append, List.cons.injEq] at hd
                have e := u8_inj hc (by omega) hd.1
                have e2 : acc + c % 128 * 128 ^ i + v / 128 * 128 ^ (i + 1) = acc + v * 128 ^ i := parts_of (by omega)
                rw [← e2]
                exact h1 (v / 128) r (.inr (by omega)) (by omega) hd.2
            · intro ht
              obtain ⟨v, r, hv, hlt, hd⟩ := h2 ht
              have e2 : acc + c % 128 * 128 ^ i + v * 128 ^ (i + 1) = acc + (v * 128 + c % 128) * 128 ^ i := by rw [Nat.pow_succ, Nat.add_mul, Nat.mul_assoc, Nat.mul_comm (128 ^ i) 128]; omega
              refine ⟨v * 128 + c % 128, r, .inr (by omega), by omega, ?_⟩
              rw [hdrop, enc_big (by omega), show (v * 128 + c % 128) % 128 + 128 = c by omega, show (v * 128 + c % 128) / 128 = v by omega]
              rw [show at' + (i + 1) = at' + i + 1 by omega] at hd
              rw [hd]
              rfl
      by_cases h9 : (i : Int) = 9
      · rw [if_pos h9]
        refine step _ ?_
        simp only [decide_eq_true_eq]
        omega
      · rw [if_neg h9]
        refine step _ ?_
        simp only [Bool.false_eq_true, false_iff]
        omega
    · rw [if_neg (by unfold mn; split <;> omega)]
      refine ⟨_, rfl, ?_, fun h => by simp at h⟩
      intro v r hv hlt hd
      exfalso
      have := congrArg List.length hd
      rw [List.length_drop, data_length, List.length_append] at this
      have := enc_pos v
      omega
theorem get_at (s : ByteArray) (hs : s.size ≤ 140737488351232) (a : Int) (k : Nat) (hk : 23 < k) : ∃ res, ints_get.f k s a = some res ∧
    (∀ u r, StandsAt s a u r → res = ((u : Int), (s.size : Int) - r.length, true)) ∧ (res.2.2 = true → ∃ u r, StandsAt s a u r) := by
  unfold ints_get.f
  obtain ⟨k, rfl⟩ : ∃ m, k = m + 1 := ⟨k - 1, by omega⟩
  by_cases h0 : a < 0
  · rw [if_pos h0]
    simp only [ints_get.j0, if_true]
    exact ⟨_, rfl, fun u r h => by have := h.1; omega, fun h => by simp at h⟩
  · rw [if_neg h0]
    by_cases h1 : a > (s.size : Int)
    · simp only [ints_get.j0, decide_eq_true h1, if_true]
      exact ⟨_, rfl, fun u r h => by have := h.2.1; omega, fun h => by simp at h⟩
    · simp only [ints_get.j0, decide_eq_false h1, Bool.false_eq_true, if_false]
      obtain ⟨n, rfl⟩ := Int.eq_ofNat_of_zero_le (show 0 ≤ a by omega)
      rw [show wrap64 ((s.size : Int) - n) = (s.size : Int) - n by unfold wrap64; omega]
      obtain ⟨res, hr, g1, g2⟩ := get_loop s hs n 10 0 0 (by omega) (by omega) (by omega) k (by omega)
      refine ⟨res, hr, ?_, ?_⟩
      · intro u r h
        have := g1 u r (.inl rfl) (by have := h.2.2.1; omega) (by have := h.2.2.2; simpa using this)
        simpa using this
      · intro h
        obtain ⟨v, r, _, hlt, hd⟩ := g2 h
        exact ⟨v, r, by omega, by omega, by omega, by simpa using hd⟩
theorem Get_at (s : ByteArray) (hs : s.size ≤ 140737488351232) (a : Int) (k : Nat) (hk : 23 < k) : ints_Get.f k s a = some (getR s a) := by
  obtain ⟨⟨x, y, b⟩, hr, g1, g2⟩ := get_at s hs a k hk
  unfold ints_Get.f
  rw [hr]
  simp only [Option.bind_some]
  by_cases h : ∃ u r, StandsAt s a u r
  · obtain ⟨u, r, h⟩ := h
    have e := g1 u r h
    simp only [Prod.mk.injEq] at e
    obtain ⟨rfl, rfl, rfl⟩ := e
    rw [if_pos rfl]
    by_cases hm : u ≤ 9223372036854775807
    · rw [if_neg (by omega), getR_yes h hm, show wrap64 (u : Int) = u by unfold wrap64; omega]
    · rw [if_pos (by omega), getR_big h (by omega)]
  · have e : b = false := by
      cases b with
      | false => rfl
      | true => exact absurd (g2 rfl) h
    subst e
    rw [if_neg (by simp), getR_no h]
/-! ### gaps.Encode and Check -/
theorem gapAt_of (l : List Int) (hs : Small l) (hu : ups 0 l = true) (j : Nat) (hj : j < l.length) : gapAt l j = l[j]?.getD 0 - nextI l j ∧ 0 ≤ gapAt l j ∧ gapAt l j ≤ 9223372036854775807 ∧ 0 ≤ nextI l j := by
  obtain ⟨h1, h2, h3, h4⟩ := ups_drop l hs l.length 0 (by omega) (by simp [nextI]) (by simpa [nextI] using hu) j (by omega) hj
  have e : gapAt l j = l[j]?.getD 0 - nextI l j := by
    unfold gapAt
    rw [h1]
    unfold wrap64
    omega
  exact ⟨e, by omega, by omega, h2⟩
theorem gapsOk_of (l : List Int) (hs : Small l) (hu : ups 0 l = true) : gapsOk l = true := by
  unfold gapsOk
  rw [List.all_eq_true]
  intro j hj
  obtain ⟨_, h2, h3, _⟩ := gapAt_of l hs hu j (List.mem_range.mp hj)
  simp [h2, h3]
theorem gapF_of (l : List Int) (hs : Small l) (hu : ups 0 l = true) (j : Nat) (hj : j < l.length) : (gapF l j).1 = l[j]?.getD 0 - nextI l j := by
  obtain ⟨h1, h2, h3, _⟩ := gapAt_of l hs hu j hj
  unfold gapF
  rw [dif_pos ⟨h2, h3⟩]
  exact h1
theorem gaps_tail (l : List Int) (hs : Small l) (hu : ups 0 l = true) : ∀ (d j : Nat), j + d = l.length →
    ((List.range d).map fun i => gapF l (j + i)).flatMap (fun x => (encB' x.1.toNat).data.toList) = body (nextI l j) (l.drop j) := by
  intro d
  induction d with
  | zero => intro j hj; rw [List.drop_of_length_le (by omega)]; simp [body]
  | succ d ih =>
    intro j hj
    have hlt : j < l.length := by omega
    have hg : l[j]?.getD 0 = l[j] := by simp [hlt]
    have hn : nextI l (j + 1) = l[j] + 1 := by unfold nextI; rw [if_neg (by omega), Nat.add_sub_cancel, hg]
    obtain ⟨h1, h2, h3, h4⟩ := gapAt_of l hs hu j hlt
    rw [List.drop_eq_getElem_cons hlt, body_cons, List.range_succ_eq_map, List.map_cons, List.flatMap_cons, ← hn, ← ih (j + 1) (by omega), List.map_map]
    congr 1
    · rw [Nat.add_zero, gapF_of l hs hu j hlt, hg, encB'_of (by have := hs l[j] (List.getElem_mem hlt); omega)]
      rfl
    · congr 2
      funext i
      simp only [Function.comp_apply]
      congr 1
      omega
theorem gapsBytes_of (l : List Int) (hs : Small l) (hu : ups 0 l = true) (hl : l.length ≤ 1000000000) : gapsBytes l = listEnc l := by
  unfold gapsBytes bytesL listEnc upto
  rw [encB'_of (by omega)]
  congr 1
  have := gaps_tail l hs hu l.length 0 (by omega)
  simpa [nextI] using this
theorem check_loop (l : List Int) (hl : ∀ x ∈ l, -9223372036854775808 ≤ x ∧ x ≤ 9223372036854775807) (hn : l.length ≤ 1000000000) : ∀ (d j : Nat) (last : Int), j + d = l.length → ∀ k, d < k →
    gaps_Check.l0 k last l (l.length : Int) (j : Int) = some (if ups (last + 1) (l.drop j) = true then 0 else 2) := by
  intro d
  induction d with
  | zero =>
    intro j last hj k hk
    obtain ⟨k, rfl⟩ : ∃ m, k = m + 1 := ⟨k - 1, by omega⟩
    simp only [gaps_Check.l0]
    rw [if_neg (by omega), List.drop_of_length_le (by omega)]
    simp [ups]
  | succ d ih =>
    intro j last hj k hk
    obtain ⟨k, rfl⟩ : ∃ m, k = m + 1 := ⟨k - 1, by omega⟩
    have hlt : j < l.length := by omega
    have hm := hl l[j] (List.getElem_mem hlt)
    have hr : rd l (j : Int) = l[j] := by simp [rd, List.getD, hlt]
    simp only [gaps_Check.l0]
    rw [if_pos (by omega), if_pos (by omega), if_pos (by omega), hr, List.drop_eq_getElem_cons hlt]
    by_cases h : l[j] ≤ last
    · rw [if_pos h, if_neg (by rw [ups_cons]; omega)]
    · rw [if_neg h, show wrap64 ((j : Int) + 1) = ((j + 1 : Nat) : Int) by unfold wrap64; omega, ih (j + 1) l[j] (by omega) k (by omega)]
      congr 2
      rw [eq_iff_iff, ups_cons]
      exact ⟨fun h' => ⟨by omega, h'⟩, fun h' => h'.2⟩
theorem Check_at (l : List Int) (hl : ∀ x ∈ l, -9223372036854775808 ≤ x ∧ x ≤ 9223372036854775807) (hn : l.length ≤ 1000000000) (k : Nat) (hk : l.length < k) : gaps_Check.f k l = some (if ups 0 l = true then 0 else 2) := by
  unfold gaps_Check.f
  exact check_loop l hl hn l.length 0 (-1) (by omega) k hk
theorem Encode_at (l : List Int) (hl : ∀ x ∈ l, -9223372036854775808 ≤ x ∧ x ≤ 9223372036854775807) (hn : l.length ≤ 1000000000) (k : Nat) (hk : l.length < k) :
    gaps_Encode.f k l = some (if ups 0 l = true then (⟨(listEnc l).toArray⟩, 0) else (⟨#[]⟩, 2)) := by
  unfold gaps_Encode.f
  rw [Check_at l hl hn k hk]
  have hs : Small l := fun x hx => (hl x hx).2
  by_cases h : ups 0 l = true
  · rw [if_pos h, if_pos h, Option.bind_some, if_pos rfl, if_pos ⟨hn, gapsOk_of l hs h⟩, gapsBytes_of l hs h hn]
  · rw [if_neg h, if_neg h, Option.bind_some, if_neg (by omega)]
/-! ### gaps.Decode -/
theorem decode_loop (s : ByteArray) (hs : s.size ≤ 1000000) : ∀ (rem p : Nat) (acc : List Int) (last : Int) (m i : Nat), p + rem = s.size → acc.length ≤ p → i ≤ m → m ≤ 9223372036854775807 → i ≤ p → -1 ≤ last → last ≤ 9223372036854775807 → ∀ k, rem + 30 < k →
    ∃ res, gaps_Decode.l0 k s acc (p : Int) last (m : Int) (i : Int) = some res ∧
      (∀ l r, RestAt s p (last + 1) ((m : Int) - i) l r → res = (acc ++ l, (s.size : Int) - r.length, 0)) ∧ ((¬ ∃ l r, RestAt s p (last + 1) ((m : Int) - i) l r) → res = ([], 0, 10)) := by
  intro rem
  induction rem using Nat.strongRecOn with
  | ind rem ih =>
    intro p acc last m i hp hacc him hm hip hl0 hl1 k hk
    obtain ⟨k, rfl⟩ : ∃ j, k = j + 1 := ⟨k - 1, by omega⟩
    simp only [gaps_Decode.l0]
    by_cases hi : i < m
    · rw [if_pos (by omega), Get_at s (by omega) _ k (by omega)]
      simp only [Option.bind_some]
      have hstep : ∀ l r, RestAt s p (last + 1) ((m : Int) - i) l r → ∃ n l', l = n :: l' ∧ last + 1 ≤ n ∧ n ≤ 9223372036854775807 ∧ ups (n + 1) l' = true ∧ Small l' ∧ StandsAt s (p : Int) (n - (last + 1)).toNat (body (n + 1) l' ++ r) := by
        intro l r h
        obtain ⟨h1, h2, h3, h4⟩ := h
        cases l with
        | nil => simp at h1; omega
        | cons n l' =>
          rw [ups_cons] at h2
          have hn := h3 n List.mem_cons_self
          rw [body_cons, List.append_assoc] at h4
          exact ⟨n, l', rfl, h2.1, hn, h2.2, fun x hx => h3 x (List.mem_cons_of_mem _ hx), by omega, by omega, by omega, by rw [Int.toNat_natCast]; exact h4⟩
      by_cases hst : ∃ u r, StandsAt s (p : Int) u r
      · obtain ⟨u, r, hst⟩ := hst
        have hlen := hst.len
        have hp1 := enc_pos u
        have hrl : (r.length : Int) ≥ 0 := by omega
        by_cases hu : u ≤ 9223372036854775807
        · rw [getR_yes hst hu]
          rw [if_pos rfl]
          by_cases hmax : last = 9223372036854775807
          · rw [if_pos hmax]
            refine ⟨_, rfl, ?_, fun _ => rfl⟩
            intro l q h
            obtain ⟨n, l', _, h1, h2, _⟩ := hstep l q h
            omega
          · rw [if_neg hmax, show wrap64 (9223372036854775806 - last) = 9223372036854775806 - last by unfold wrap64; omega]
            by_cases hbig : (u : Int) > 9223372036854775806 - last
            · rw [if_pos hbig]
              refine ⟨_, rfl, ?_, fun _ => rfl⟩
              intro l q h
              obtain ⟨n, l', _, h1, h2, _, _, h3⟩ := hstep l q h
              have := (hst.one h3).1
              omega
            · rw [if_neg hbig, if_pos (by omega)]
              have e1 : wrap64 (last + wrap64 ((u : Int) + 1)) = last + 1 + u := by unfold wrap64; omega
              obtain ⟨p', hp'⟩ : ∃ p' : Nat, (s.size : Int) - r.length = p' := ⟨p + (enc u).length, by rw [hlen]; omega⟩
              have hpp : p' = p + (enc u).length := by omega
              have hdrop : s.data.toList.drop p' = r := by
                have h4 := hst.2.2.2
                rw [Int.toNat_natCast] at h4
                rw [hpp, ← List.drop_drop, h4, List.drop_left]
              have hp's : p' ≤ s.size := by omega
              rw [e1, hp', show wrap64 ((i : Int) + 1) = ((i + 1 : Nat) : Int) by unfold wrap64; omega]
              obtain ⟨res, hr, g1, g2⟩ := ih (s.size - p') (by omega) p' (acc ++ [last + 1 + u]) (last + 1 + u) m (i + 1) (by omega) (by simp; omega) (by omega) hm (by omega) (by omega) (by omega) k (by omega)
              refine ⟨res, hr, ?_, ?_⟩
              · intro l q h
                obtain ⟨n, l', rfl, h1, h2, h3, h5, h6⟩ := hstep l q h
                obtain ⟨eu, er⟩ := hst.one h6
                have en : n = last + 1 + u := by omega
                subst en
                have := g1 l' q ⟨by have := h.1; simp at this ⊢; omega, h3, h5, by rw [hdrop, er]⟩
                rw [this, List.append_assoc]
                rfl
              · intro h
                refine g2 ?_
                rintro ⟨l', q, h1, h2, h3, h4⟩
                refine h ⟨(last + 1 + u) :: l', q, by simp at h1 ⊢; omega, by rw [ups_cons]; exact ⟨by omega, h2⟩, ?_, ?_⟩
                · intro x hx
                  rcases List.mem_cons.mp hx with rfl | hx
                  · omega
                  · exact h3 x hx
                · have h5 := hst.2.2.2
                  rw [Int.toNat_natCast] at h5
                  rw [h5, body_cons, List.append_assoc, ← h4, hdrop]
                  congr 2
                  omega
        · rw [getR_big hst (by omega)]
          rw [if_neg (by simp)]
          refine ⟨_, rfl, ?_, fun _ => rfl⟩
          intro l q h
          obtain ⟨n, l', _, h1, h2, _, _, h3⟩ := hstep l q h
          have := (hst.one h3).1
          omega
      · rw [getR_no hst]
        rw [if_neg (by simp)]
        refine ⟨_, rfl, ?_, fun _ => rfl⟩
        intro l q h
        obtain ⟨n, l', _, _, _, _, _, h3⟩ := hstep l q h
        exact absurd ⟨_, _, h3⟩ hst
    · rw [if_neg (by omega)]
      obtain rfl : i = m := by omega
      refine ⟨_, rfl, ?_, ?_⟩
      · intro l r h
        obtain ⟨h1, h2, h3, h4⟩ := h
        have : l = [] := List.length_eq_zero_iff.mp (by omega)
        subst this
        have h5 := congrArg List.length h4
        rw [List.length_drop, data_length] at h5
        simp only [body, List.nil_append] at h5
        simp only [List.append_nil, Prod.mk.injEq, true_and, and_true]
        omega
      · intro h
        exact absurd ⟨[], s.data.toList.drop p, by simp, rfl, by intro x hx; simp at hx, by simp [body]⟩ h
theorem Decode_at (s : ByteArray) (hs : s.size ≤ 1000000) (a : Int) (k : Nat) (hk : s.size + 40 < k) : gaps_Decode.f k s a = some (decR s a) := by
  unfold gaps_Decode.f
  rw [Get_at s (by omega) a k (by omega)]
  obtain ⟨k, rfl⟩ : ∃ j, k = j + 1 := ⟨k - 1, by omega⟩
  simp only [Option.bind_some]
  by_cases hst : ∃ u r, StandsAt s a u r
  · obtain ⟨u, r, hst⟩ := hst
    have hlen := hst.len
    have h0 := hst.1
    have h1 := hst.2.1
    have hrl : (r.length : Int) ≥ 0 := by omega
    have hno : ∀ l q, ListAt s a l q → u = l.length ∧ r = body 0 l ++ q ∧ ups 0 l = true ∧ Small l := by
      intro l q h
      have hll : l.length < 18446744073709551616 := by
        have := congrArg List.length h.2.2.2.2
        rw [List.length_drop, data_length, List.length_append, listEnc, List.length_append] at this
        have := body_len l 0
        omega
      obtain ⟨q', h2, h3, h4, h5⟩ := (listAt_iff h0 h1 hll).1 h
      obtain ⟨e1, e2⟩ := hst.one h2
      exact ⟨e1, by rw [e2, h3], h4, h5⟩
    by_cases hu : u ≤ 9223372036854775807
    · rw [getR_yes hst hu, hlen]
      rw [if_pos rfl]
      simp only [gaps_Decode.j0]
      rw [show wrap64 ((s.size : Int) - (a + (enc u).length)) = (s.size : Int) - (a + (enc u).length) by unfold wrap64; omega]
      by_cases hbig : (u : Int) > (s.size : Int) - (a + (enc u).length)
      · rw [if_pos (decide_eq_true hbig), decR_no]
        rintro ⟨l, q, h⟩
        obtain ⟨e1, e2, _, _⟩ := hno l q h
        have := congrArg List.length e2
        rw [List.length_append] at this
        have := body_len l 0
        omega
      · rw [if_neg (by simpa using hbig)]
        obtain ⟨p, hp⟩ : ∃ p : Nat, a + (enc u).length = p := ⟨a.toNat + (enc u).length, by omega⟩
        have hdrop : s.data.toList.drop p = r := by
          rw [show p = a.toNat + (enc u).length by omega, ← List.drop_drop, hst.2.2.2, List.drop_left]
        rw [hp]
        obtain ⟨res, hr, g1, g2⟩ := decode_loop s hs (s.size - p) p [] (-1) u 0 (by omega) (by simp) (by omega) hu (by omega) (by omega) (by omega) k (by omega)
        rw [show ((0 : Int)) = ((0 : Nat) : Int) by rfl, hr]
        congr 1
        by_cases hl : ∃ l q, ListAt s a l q
        · obtain ⟨l, q, hl⟩ := hl
          obtain ⟨e1, e2, e3, e4⟩ := hno l q hl
          rw [decR_yes hl]
          exact g1 l q ⟨by omega, e3, e4, by rw [hdrop, e2]; rfl⟩
        · rw [decR_no hl]
          refine g2 ?_
          rintro ⟨l, q, h2, h3, h4, h5⟩
          refine hl ⟨l, q, (listAt_iff h0 h1 (by omega)).2 ⟨r, ?_, ?_, h3, h4⟩⟩
          · have : l.length = u := by omega
            rw [this]; exact hst
          · rw [← hdrop, h5]; rfl
    · rw [getR_big hst (by omega)]
      rw [if_neg (by simp)]
      simp only [gaps_Decode.j0, if_true]
      rw [decR_no]
      rintro ⟨l, q, h⟩
      obtain ⟨e1, e2, _, _⟩ := hno l q h
      have := congrArg List.length e2
      rw [List.length_append] at this
      have := body_len l 0
      omega
  · rw [getR_no hst]
    rw [if_neg (by simp)]
    simp only [gaps_Decode.j0, if_true]
    rw [decR_no]
    rintro ⟨l, q, h⟩
    have hll : l.length < 18446744073709551616 := by
      have := congrArg List.length h.2.2.2.2
      rw [List.length_drop, data_length, List.length_append, listEnc, List.length_append] at this
      have := body_len l 0
      omega
    obtain ⟨q', h2, _⟩ := (listAt_iff h.1 h.2.1 hll).1 h
    exact hst ⟨_, _, h2⟩
theorem list_toList (l : List UInt8) : (⟨l.toArray⟩ : ByteArray).toList = l := by rw [Lib.toList_data]
theorem list_size (l : List UInt8) : (⟨l.toArray⟩ : ByteArray).size = l.length := by unfold ByteArray.size; simp
theorem listEnc_ex : listEnc [3, 4, 300] = [3, 3, 0, 167, 2] := by
  show enc 3 ++ (enc 3 ++ (enc 0 ++ (enc 295 ++ []))) = _
  rw [enc_big (u := 295) (by omega), enc_small (u := 3) (by omega), enc_small (u := 0) (by omega), enc_small (u := 295 / 128) (by omega)]
  decide
theorem listEnc_nil : listEnc [] = [0] := by
  show enc 0 ++ [] = _
  rw [enc_small (by omega)]
  decide
theorem does_60 : carousellaw02_does.f 60 = some true := by
  unfold carousellaw02_does.f
  rw [Encode_at [3, 4, 300] (by decide) (by decide) 60 (by decide), Encode_at [] (by decide) (by decide) 60 (by decide), Encode_at [4, 4] (by decide) (by decide) 60 (by decide)]
  rw [show gaps_Decode.f 60 (⟨#[9, 2, 5, 0]⟩ : ByteArray) 1 = some ([5, 6], 4, 0) by decide +kernel, show gaps_Decode.f 60 (⟨#[1]⟩ : ByteArray) 0 = some ([], 0, 10) by decide +kernel, show gaps_Check.f 60 [(-1)] = some 2 by decide +kernel]
  rw [if_pos (show ups 0 [3, 4, 300] = true by decide), if_pos (show ups 0 [] = true by decide), if_neg (show ¬ ups 0 [4, 4] = true by decide), listEnc_ex, listEnc_nil]
  simp only [Option.bind_some, list_toList, if_true]
  rw [show carousellaw02_Same.f 60 [5, 6] [5, 6] = some true by decide +kernel]
  rfl
theorem does_at {k : Nat} (hk : 60 ≤ k) : carousellaw02_does.f k = some true := at_rounds (g := carousellaw02_does.f) carousellaw02_does.mono hk does_60
theorem body_le : ∀ (l : List Int) (nx : Int), 0 ≤ nx → (∀ x ∈ l, x ≤ 9223372036854775807) → (body nx l).length ≤ 10 * l.length ∨ ups nx l = false := by
  intro l
  induction l with
  | nil => intro nx _ _; left; simp [body]
  | cons n l ih =>
    intro nx h0 hl
    by_cases h : nx ≤ n
    · have hn := hl n List.mem_cons_self
      rcases ih (n + 1) (by omega) (fun x hx => hl x (List.mem_cons_of_mem _ hx)) with h1 | h1
      · left
        rw [body_cons, List.length_append, List.length_cons]
        have := enc_len10 (u := (n - nx).toNat) (by omega)
        omega
      · right
        simp [ups, h1]
    · right
      simp [ups, h]
theorem listEnc_le (l : List Int) (hl : ∀ x ∈ l, -9223372036854775808 ≤ x ∧ x ≤ 9223372036854775807) (hn : l.length ≤ 1000000000) : (listEnc l).length ≤ 10 * l.length + 10 ∨ ups 0 l = false := by
  rcases body_le l 0 (by omega) (fun x hx => (hl x hx).2) with h | h
  · left
    unfold listEnc
    rw [List.length_append]
    have := enc_len10 (u := l.length) (by omega)
    omega
  · exact .inr h
theorem same_loop (l m : List Int) (hl : l.length = m.length) (hn : l.length ≤ 1000000) : ∀ (d j : Nat), j + d = l.length → ∀ k, d < k → carousellaw02_Same.l0 k l m (j : Int) = some (decide (l.drop j = m.drop j)) := by
  intro d
  induction d with
  | zero =>
    intro j hj k hk
    obtain ⟨k, rfl⟩ : ∃ m, k = m + 1 := ⟨k - 1, by omega⟩
    simp only [carousellaw02_Same.l0]
    rw [if_neg (by omega), List.drop_of_length_le (by omega), List.drop_of_length_le (by omega)]
    simp
  | succ d ih =>
    intro j hj k hk
    obtain ⟨k, rfl⟩ : ∃ m, k = m + 1 := ⟨k - 1, by omega⟩
    have hlt : j < l.length := by omega
    have hlt' : j < m.length := by omega
    have hr : rd l (j : Int) = l[j] := by simp [rd, List.getD, hlt]
    have hr' : rd m (j : Int) = m[j] := by simp [rd, List.getD, hlt']
    simp only [carousellaw02_Same.l0]
    rw [if_pos (by omega), if_pos (by omega), if_pos (by omega), hr, hr', List.drop_eq_getElem_cons hlt, List.drop_eq_getElem_cons hlt']
    by_cases h : l[j] = m[j]
    · rw [if_pos h, show wrap64 ((j : Int) + 1) = ((j + 1 : Nat) : Int) by unfold wrap64; omega, ih (j + 1) (by omega) k (by omega)]
      congr 1
      exact decide_eq_decide.2 (by rw [List.cons.injEq]; exact ⟨fun x => ⟨h, x⟩, fun x => x.2⟩)
    · rw [if_neg h, decide_eq_false (by rw [List.cons.injEq]; exact fun x => h x.1)]
theorem Same_at (l m : List Int) (hn : l.length ≤ 1000000) (k : Nat) (hk : l.length < k) : carousellaw02_Same.f k l m = some (decide (l = m)) := by
  unfold carousellaw02_Same.f
  by_cases h : l.length = m.length
  · rw [if_pos (by omega)]
    have := same_loop l m h hn l.length 0 (by omega) k hk
    simpa using this
  · rw [if_neg (by omega), decide_eq_false (fun e => h (by rw [e]))]
/-! ### the reference's bytes and number -/
theorem bytes_loop : ∀ (d u : Nat) (acc : ByteArray), u < 128 ^ (d + 1) → u < 18446744073709551616 → acc.size + d ≤ 1000 → ∀ k, d < k → carouselref01_bytes.l0 k (u : Int) acc = some (acc ++ encB u) := by
  intro d
  induction d with
  | zero =>
    intro u acc hu hu2 ha k hk
    obtain ⟨k, rfl⟩ : ∃ m, k = m + 1 := ⟨k - 1, by omega⟩
    simp only [carouselref01_bytes.l0, Option.bind_some, strOfNums_size, List.length_singleton]
    rw [if_neg (by omega), if_pos (by omega), encB_small (by omega), show ((u : Int) % 256) = u by omega]
  | succ d ih =>
    intro u acc hu hu2 ha k hk
    obtain ⟨k, rfl⟩ : ∃ m, k = m + 1 := ⟨k - 1, by omega⟩
    simp only [carouselref01_bytes.l0, Option.bind_some, strOfNums_size, List.length_singleton]
    by_cases h : u < 128
    · rw [if_neg (by omega), if_pos (by omega), encB_small (by omega), show ((u : Int) % 256) = u by omega]
    · have hlt : u / 128 < 128 ^ (d + 1) := by rw [Nat.div_lt_iff_lt_mul (by omega)]; rw [Nat.pow_succ] at hu; exact hu
      rw [if_pos (by omega), if_pos (by omega), wrap_u64, tdiv_128, tmod_128, show ((u / 128 : Nat) : Int) % 18446744073709551616 = ((u / 128 : Nat) : Int) by omega,
        show ((((u % 128 : Nat) : Int) % 256 + 128) % 256) = ((u % 128 + 128 : Nat) : Int) by omega]
      rw [ih (u / 128) _ hlt (by omega) (by rw [ByteArray.size_append, strOfNums_size]; simp; omega) k (by omega), ByteArray.append_assoc, ← encB_big (by omega)]
theorem bytes_at {u : Nat} (hu : u < 18446744073709551616) (k : Nat) (hk : 10 ≤ k) : carouselref01_bytes.f k (u : Int) = some (encB u) := by
  unfold carouselref01_bytes.f
  rw [bytes_loop 9 u _ (by have := p128; omega) hu (by show (0 : Nat) + 9 ≤ 1000; omega) k (by omega)]
  rw [show ((⟨#[]⟩ : ByteArray) ++ encB u) = encB u from ByteArray.empty_append]
def lastOf (s : ByteArray) (a e : Nat) (x : Nat) : Option (Int × Int × Bool) := if enc x = (s.data.toList.drop a).take (e + 1 - a) then some ((x : Int), ((e + 1 : Nat) : Int), true) else some (0, 0, false)
theorem number_last (s : ByteArray) (a e x k : Nat) (hs : s.size ≤ 5000) (ha : a ≤ e) (he : e < s.size) (hlt : x < 18446744073709551616) (hk : 10 ≤ k) :
    carouselref01_number.l1 (k + 1) s (a : Int) (e : Int) (x : Int) ((a : Int) - 1) = lastOf s a e x := by
  have e1 : wrap64 ((e : Int) + 1) = ((e + 1 : Nat) : Int) := by unfold wrap64; omega
  have h1 : ¬ (a : Int) - 1 ≥ a := by omega
  have h2 : (0 : Int) ≤ a := by omega
  have h3 : (a : Int) ≤ ((e + 1 : Nat) : Int) := by omega
  have h4 : ((e + 1 : Nat) : Int) ≤ (s.size : Int) := by omega
  simp only [carouselref01_number.l1]
  rw [if_neg h1, bytes_at hlt k hk, e1]
  simp only [Option.bind_some]
  rw [if_pos h2, if_pos h3, if_pos h4, encB_toList, extract_toList, Int.toNat_natCast, Int.toNat_natCast]
  rw [lastOf]
theorem number_l1 (s : ByteArray) (hs : s.size ≤ 5000) (a e : Nat) (ha : a ≤ e) (he : e < s.size) (X : Nat) (hX : X = valL ((s.data.toList.drop a).take (e + 1 - a)) % 18446744073709551616) :
    ∀ (n : Nat), a + n ≤ e + 1 → ∀ x : Nat, x = valL ((s.data.toList.drop (a + n)).take (e + 1 - (a + n))) % 18446744073709551616 → ∀ k, n + 11 < k →
    carouselref01_number.l1 k s (a : Int) (e : Int) (x : Int) (((a + n : Nat) : Int) - 1) = lastOf s a e X := by
  intro n
  induction n with
  | zero =>
    intro h x hx k hk
    obtain ⟨k, rfl⟩ : ∃ m, k = m + 1 := ⟨k - 1, by omega⟩
    rw [Nat.add_zero] at hx
    obtain rfl : x = X := hx.trans hX.symm
    have hlt : x < 18446744073709551616 := by rw [hx]; exact Nat.mod_lt _ (by omega)
    rw [Nat.add_zero]
    exact number_last s a e x k hs ha he hlt (by omega)
  | succ n ih =>
    intro h x hx k hk
    obtain ⟨k, rfl⟩ : ∃ m, k = m + 1 := ⟨k - 1, by omega⟩
    obtain ⟨c, hc, hcb, hd⟩ := byte_at s (a + n) (by omega)
    simp only [carouselref01_number.l1]
    rw [if_pos (by omega), show ((a + (n + 1) : Nat) : Int) - 1 = ((a + n : Nat) : Int) by omega, if_pos (by omega), if_pos (by omega), show wrap64 (((a + n : Nat) : Int) - 1) = ((a + n : Nat) : Int) - 1 by unfold wrap64; omega]
    rw [hcb, tmod_128]
    simp only [wrap_u64]
    have hv : ((x : Int) * 128 % 18446744073709551616 + ((c % 128 : Nat) : Int) % 18446744073709551616) % 18446744073709551616 = ((c % 128 + 128 * valL ((s.data.toList.drop (a + n + 1)).take (e - (a + n)))) % 18446744073709551616 : Nat) := by
      rw [show a + (n + 1) = a + n + 1 by omega, show e + 1 - (a + n + 1) = e - (a + n) by omega] at hx
      omega
    rw [hv]
    refine ih (by omega) _ ?_ k (by omega)
    rw [hd, show e + 1 - (a + n) = (e - (a + n)) + 1 by omega, List.take_succ_cons, valL_cons, u8_toNat hc]
theorem number_scan (s : ByteArray) (hs : s.size ≤ 5000) (a : Nat) : ∀ (n j : Nat), j + n = s.size → ∃ e m, j ≤ e ∧ e ≤ s.size ∧ m ≤ n + 1 ∧ ∀ k, carouselref01_number.l0 (k + m) s (a : Int) (j : Int) = carouselref01_number.j2 k s (a : Int) (e : Int) := by
  intro n
  induction n with
  | zero =>
    intro j hj
    refine ⟨j, 1, by omega, by omega, by omega, fun k => ?_⟩
    simp only [carouselref01_number.l0]
    rw [if_neg (by omega)]
  | succ n ih =>
    intro j hj
    obtain ⟨c, hc, hcb, hd⟩ := byte_at s j (by omega)
    by_cases hlow : c < 128
    · refine ⟨j, 1, by omega, by omega, by omega, fun k => ?_⟩
      simp only [carouselref01_number.l0]
      rw [if_pos (by omega), if_pos (by omega), hcb, if_neg (by omega)]
    · obtain ⟨e, m, h1, h2, h3, h4⟩ := ih (j + 1) (by omega)
      refine ⟨e, m + 1, by omega, by omega, by omega, fun k => ?_⟩
      rw [← Nat.add_assoc]
      simp only [carouselref01_number.l0]
      rw [if_pos (by omega), if_pos (by omega), hcb, if_pos (by omega), show wrap64 ((j : Int) + 1) = ((j + 1 : Nat) : Int) by unfold wrap64; omega]
      exact h4 k
theorem number_scan_at (s : ByteArray) (hs : s.size ≤ 5000) (a : Nat) (r : List UInt8) : ∀ (u j : Nat), s.data.toList.drop j = enc u ++ r → ∀ k, carouselref01_number.l0 (k + (enc u).length) s (a : Int) (j : Int) = carouselref01_number.j2 k s (a : Int) ((j + (enc u).length - 1 : Nat) : Int) := by
  intro u
  induction u using Nat.strongRecOn with
  | ind u ih =>
    intro j hd k
    have hl := congrArg List.length hd
    rw [List.length_drop, data_length, List.length_append] at hl
    have hp := enc_pos u
    obtain ⟨c, hc, hcb, hd'⟩ := byte_at s j (by omega)
    rw [hd'] at hd
    by_cases h : u < 128
    · rw [enc_small h] at hd ⊢
      simp only [List.cons_append, List.nil_append, List.cons.injEq] at hd
      have := u8_inj hc (by omega) hd.1
      simp only [List.length_singleton, carouselref01_number.l0]
      rw [if_pos (by omega), if_pos (by omega), hcb, if_neg (by omega)]
      rfl
    · rw [enc_big (by omega)] at hd ⊢
      simp only [List.cons_append, List.cons.injEq] at hd
      have := u8_inj hc (by omega) hd.1
      rw [List.length_cons, ← Nat.add_assoc]
      simp only [carouselref01_number.l0]
      rw [if_pos (by omega), if_pos (by omega), hcb, if_pos (by omega), show wrap64 ((j : Int) + 1) = ((j + 1 : Nat) : Int) by unfold wrap64; omega]
      rw [ih (u / 128) (by omega) (j + 1) hd.2 k]
      congr 2
      omega
theorem number_at (s : ByteArray) (hs : s.size ≤ 5000) (a : Int) (k : Nat) (hk : 2 * s.size + 100 < k) : ∃ res, carouselref01_number.f k s a = some res ∧
    (∀ u r, StandsAt s a u r → res = ((u : Int), (s.size : Int) - r.length, true)) ∧ (res.2.2 = true → ∃ u r, StandsAt s a u r) := by
  unfold carouselref01_number.f
  obtain ⟨k, rfl⟩ : ∃ m, k = m + 1 := ⟨k - 1, by omega⟩
  by_cases h0 : a < 0
  · rw [if_pos h0]
    simp only [carouselref01_number.j0, if_true]
    exact ⟨_, rfl, fun u r h => by have := h.1; omega, fun h => by simp at h⟩
  · rw [if_neg h0]
    by_cases h1 : a > (s.size : Int)
    · simp only [carouselref01_number.j0, decide_eq_true h1, if_true]
      exact ⟨_, rfl, fun u r h => by have := h.2.1; omega, fun h => by simp at h⟩
    · simp only [carouselref01_number.j0, decide_eq_false h1, Bool.false_eq_true, if_false]
      obtain ⟨n, rfl⟩ := Int.eq_ofNat_of_zero_le (show 0 ≤ a by omega)
      by_cases hst : ∃ u r, StandsAt s (n : Int) u r
      · obtain ⟨u, r, hst⟩ := hst
        have hlen := hst.len
        have hone := fun v q (h : StandsAt s (n : Int) v q) => hst.one h
        obtain ⟨g0, g1, g2, g3⟩ := hst
        rw [Int.toNat_natCast] at g3
        have hp := enc_pos u
        have h10 := enc_len10 g2
        have hl := congrArg List.length g3
        rw [List.length_drop, data_length, List.length_append] at hl
        obtain ⟨k, rfl⟩ : ∃ m, k = m + (enc u).length := ⟨k - (enc u).length, by omega⟩
        rw [number_scan_at s hs n r u n g3 k]
        obtain ⟨e, he⟩ : ∃ e, e + 1 = n + (enc u).length := ⟨n + (enc u).length - 1, by omega⟩
        rw [show n + (enc u).length - 1 = e by omega]
        obtain ⟨k, rfl⟩ : ∃ m, k = m + 2 := ⟨k - 2, by omega⟩
        have hgo : carouselref01_number.j3 (k + 1) s (n : Int) (e : Int) false = some ((u : Int), (s.size : Int) - r.length, true) := by
          simp only [carouselref01_number.j3, Bool.false_eq_true, if_false]
          have := number_l1 s hs n e (by omega) (by omega) u (by rw [show e + 1 - n = (enc u).length by omega, g3, List.take_left, valL_enc, Nat.mod_eq_of_lt g2]) (enc u).length (by omega) 0
            (by rw [← he, Nat.sub_self, List.take_zero, valL_nil]) k (by omega)
          rw [← he, show ((e + 1 : Nat) : Int) - 1 = (e : Int) by omega] at this
          rw [show ((0 : Int)) = ((0 : Nat) : Int) by rfl, this]
          unfold lastOf
          rw [show e + 1 - n = (enc u).length by omega, g3, List.take_left, if_pos rfl]
          congr 2
          congr 1
          omega
        refine ⟨((u : Int), (s.size : Int) - r.length, true), ?_, ?_, fun _ => ⟨u, r, by omega, by omega, g2, g3⟩⟩
        · simp only [carouselref01_number.j2]
          rw [if_neg (by omega), show wrap64 ((e : Int) - n) = ((e - n : Nat) : Int) by unfold wrap64; omega, if_neg (by omega)]
          by_cases h9 : ((e - n : Nat) : Int) = 9
          · rw [if_pos h9, if_pos (by omega), if_pos (by omega)]
            obtain ⟨c, hc, hcb, hd⟩ := byte_at s e (by omega)
            obtain ⟨c', q1, q2⟩ := enc_last 9 u (by omega)
            have hq : s.data.toList[e]? = some (UInt8.ofNat c) := by
              rw [← List.head?_drop, hd]; rfl
            have hq' : s.data.toList[e]? = some c' := by
              have : (s.data.toList.drop n)[9]? = some c' := by rw [g3, List.getElem?_append_left (by omega)]; exact q1
              rw [List.getElem?_drop] at this
              rw [← this]; congr 1; omega
            have hcc : UInt8.ofNat c = c' := Option.some.inj (hq.symm.trans hq')
            have : c = u / 128 ^ 9 := by rw [← q2, ← hcc, u8_toNat hc]
            have : c ≤ 1 := by rw [this, p128']; omega
            rw [hcb, decide_eq_false (by omega), hgo]
          · rw [if_neg h9, hgo]
        · intro v q h
          obtain ⟨rfl, rfl⟩ := hone v q h
          rfl
      · obtain ⟨e, m, h2, h3, h4, h5⟩ := number_scan s hs n (s.size - n) n (by omega)
        obtain ⟨k, rfl⟩ : ∃ j, k = j + m := ⟨k - m, by omega⟩
        rw [h5 k]
        have hbad : ∃ res, carouselref01_number.j2 k s (n : Int) (e : Int) = some res ∧ (res.2.2 = true → ∃ u r, StandsAt s (n : Int) u r) := by
          obtain ⟨k, rfl⟩ : ∃ j, k = j + 2 := ⟨k - 2, by omega⟩
          have ht : ∃ res, carouselref01_number.j3 (k + 1) s (n : Int) (e : Int) true = some res ∧ (res.2.2 = true → ∃ u r, StandsAt s (n : Int) u r) := by
            simp only [carouselref01_number.j3, if_true]
            exact ⟨_, rfl, fun h => by simp at h⟩
          simp only [carouselref01_number.j2]
          by_cases q1 : e < s.size
          · have hf : ∃ res, carouselref01_number.j3 (k + 1) s (n : Int) (e : Int) false = some res ∧ (res.2.2 = true → ∃ u r, StandsAt s (n : Int) u r) := by
              simp only [carouselref01_number.j3, Bool.false_eq_true, if_false]
              obtain ⟨X, hX⟩ : ∃ X, X = valL ((s.data.toList.drop n).take (e + 1 - n)) % 18446744073709551616 := ⟨_, rfl⟩
              have hlt : X < 18446744073709551616 := by rw [hX]; exact Nat.mod_lt _ (by omega)
              have := number_l1 s hs n e (by omega) (by omega) X hX (e + 1 - n) (by omega) 0 (by rw [show n + (e + 1 - n) = e + 1 by omega, Nat.sub_self, List.take_zero, valL_nil]) k (by omega)
              rw [show n + (e + 1 - n) = e + 1 by omega, show ((e + 1 : Nat) : Int) - 1 = (e : Int) by omega] at this
              rw [show ((0 : Int)) = ((0 : Nat) : Int) by rfl, this]
              clear hX
              unfold lastOf
              split
              · rename_i hq
                refine ⟨_, rfl, fun _ => ⟨X, (s.data.toList.drop n).drop (e + 1 - n), by omega, by omega, hlt, ?_⟩⟩
                rw [hq, Int.toNat_natCast, List.take_append_drop]
              · exact ⟨_, rfl, fun h => by simp at h⟩
            rw [if_neg (by omega), show wrap64 ((e : Int) - n) = ((e - n : Nat) : Int) by unfold wrap64; omega]
            by_cases q2 : ((e - n : Nat) : Int) > 9
            · rw [if_pos q2]; exact ht
            · rw [if_neg q2]
              by_cases q3 : ((e - n : Nat) : Int) = 9
              · rw [if_pos q3, if_pos (by omega), if_pos (by omega)]
                by_cases q4 : bt s (e : Int) > 1
                · rw [decide_eq_true q4]; exact ht
                · rw [decide_eq_false q4]; exact hf
              · rw [if_neg q3]; exact hf
          · rw [if_pos (by omega)]; exact ht
        obtain ⟨res, hr, hb⟩ := hbad
        exact ⟨res, hr, fun u r h => absurd ⟨u, r, h⟩ hst, hb⟩
theorem refGet_at (s : ByteArray) (hs : s.size ≤ 5000) (a : Int) (k : Nat) (hk : 2 * s.size + 100 < k) : carouselref01_Get.f k s a = some (getR s a) := by
  obtain ⟨⟨x, y, b⟩, hr, g1, g2⟩ := number_at s hs a k hk
  unfold carouselref01_Get.f
  rw [hr]
  simp only [Option.bind_some]
  by_cases h : ∃ u r, StandsAt s a u r
  · obtain ⟨u, r, h⟩ := h
    have e := g1 u r h
    simp only [Prod.mk.injEq] at e
    obtain ⟨rfl, rfl, rfl⟩ := e
    rw [if_pos rfl]
    by_cases hm : u ≤ 9223372036854775807
    · rw [if_neg (by omega), getR_yes h hm, show wrap64 (u : Int) = u by unfold wrap64; omega]
    · rw [if_pos (by omega), getR_big h (by omega)]
  · have e : b = false := by
      cases b with
      | false => rfl
      | true => exact absurd (g2 rfl) h
    subst e
    rw [if_neg (by simp), getR_no h]
theorem refDecode_loop (s : ByteArray) (hs : s.size ≤ 5000) : ∀ (rem p : Nat) (acc : List Int) (nx : Int) (m i : Nat), p + rem = s.size → acc.length = i → i ≤ m → m ≤ 9223372036854775807 → i ≤ p → 0 ≤ nx → nx ≤ 9223372036854775808 →
    (i = 0 → nx = 0) → (0 < i → rd acc ((i - 1 : Nat) : Int) = nx - 1) → ∀ k, rem + 2 * s.size + 200 < k →
    ∃ res, carouselref02_Decode.l0 k s (m : Int) (p : Int) acc (i : Int) = some res ∧
      (∀ l r, RestAt s p nx ((m : Int) - i) l r → res = (acc ++ l, (s.size : Int) - r.length, 0)) ∧ ((¬ ∃ l r, RestAt s p nx ((m : Int) - i) l r) → res = ([], 0, 10)) := by
  intro rem
  induction rem using Nat.strongRecOn with
  | ind rem ih =>
    intro p acc nx m i hp hacc him hm hip hl0 hl1 hz hlast k hk
    obtain ⟨k, rfl⟩ : ∃ j, k = j + 1 := ⟨k - 1, by omega⟩
    simp only [carouselref02_Decode.l0]
    by_cases hi : i < m
    · rw [if_pos (by omega), refGet_at s hs _ k (by omega)]
      simp only [Option.bind_some]
      have hstep : ∀ l r, RestAt s p nx ((m : Int) - i) l r → ∃ n l', l = n :: l' ∧ nx ≤ n ∧ n ≤ 9223372036854775807 ∧ ups (n + 1) l' = true ∧ Small l' ∧ StandsAt s (p : Int) (n - nx).toNat (body (n + 1) l' ++ r) := by
        intro l r h
        obtain ⟨h1, h2, h3, h4⟩ := h
        cases l with
        | nil => simp at h1; omega
        | cons n l' =>
          rw [ups_cons] at h2
          have hn := h3 n List.mem_cons_self
          rw [body_cons, List.append_assoc] at h4
          exact ⟨n, l', rfl, h2.1, hn, h2.2, fun x hx => h3 x (List.mem_cons_of_mem _ hx), by omega, by omega, by omega, by rw [Int.toNat_natCast]; exact h4⟩
      by_cases hst : ∃ u r, StandsAt s (p : Int) u r
      · obtain ⟨u, r, hst⟩ := hst
        have hlen := hst.len
        have hp1 := enc_pos u
        have hrl : (r.length : Int) ≥ 0 := by omega
        by_cases hu : u ≤ 9223372036854775807
        · rw [getR_yes hst hu]
          rw [if_pos rfl]
          obtain ⟨p', hp'⟩ : ∃ p' : Nat, (s.size : Int) - r.length = p' := ⟨p + (enc u).length, by rw [hlen]; omega⟩
          have hpp : p' = p + (enc u).length := by omega
          have hdrop : s.data.toList.drop p' = r := by
            have h4 := hst.2.2.2
            rw [Int.toNat_natCast] at h4
            rw [hpp, ← List.drop_drop, h4, List.drop_left]
          have hp's : p' ≤ s.size := by omega
          have hgo : nx + u ≤ 9223372036854775807 → ∃ res, carouselref02_Decode.l0 k s (m : Int) (p' : Int) (acc ++ [nx + u]) ((i + 1 : Nat) : Int) = some res ∧
              (∀ l r, RestAt s p nx ((m : Int) - i) l r → res = (acc ++ l, (s.size : Int) - r.length, 0)) ∧ ((¬ ∃ l r, RestAt s p nx ((m : Int) - i) l r) → res = ([], 0, 10)) := by
            intro hfit
            obtain ⟨res, hr, g1, g2⟩ := ih (s.size - p') (by omega) p' (acc ++ [nx + u]) (nx + u + 1) m (i + 1) (by omega) (by simp; omega) (by omega) hm (by omega) (by omega) (by omega) (fun h => by omega)
              (fun _ => by simp [rd, List.getD, ← hacc]) k (by omega)
            refine ⟨res, hr, ?_, ?_⟩
            · intro l q h
              obtain ⟨n, l', rfl, h1, h2, h3, h5, h6⟩ := hstep l q h
              obtain ⟨eu, er⟩ := hst.one h6
              have en : n = nx + u := by omega
              subst en
              have := g1 l' q ⟨by have := h.1; simp at this ⊢; omega, h3, h5, by rw [hdrop, er]⟩
              rw [this, List.append_assoc]
              rfl
            · intro h
              refine g2 ?_
              rintro ⟨l', q, h1, h2, h3, h4⟩
              refine h ⟨(nx + u) :: l', q, by simp at h1 ⊢; omega, by rw [ups_cons]; exact ⟨by omega, h2⟩, ?_, ?_⟩
              · intro x hx
                rcases List.mem_cons.mp hx with rfl | hx
                · omega
                · exact h3 x hx
              · have h5 := hst.2.2.2
                rw [Int.toNat_natCast] at h5
                rw [h5, body_cons, List.append_assoc, ← h4, hdrop]
                congr 2
                omega
          have hbad : 9223372036854775807 < nx + u → ∃ res, (some (([] : List Int), (0 : Int), (10 : Int))) = some res ∧
              (∀ l r, RestAt s p nx ((m : Int) - i) l r → res = (acc ++ l, (s.size : Int) - r.length, 0)) ∧ ((¬ ∃ l r, RestAt s p nx ((m : Int) - i) l r) → res = ([], 0, 10)) := by
            intro hbig
            refine ⟨_, rfl, ?_, fun _ => rfl⟩
            intro l q h
            obtain ⟨n, l', _, h1, h2, _, _, h3⟩ := hstep l q h
            have := (hst.one h3).1
            omega
          by_cases hi0 : (i : Int) > 0
          · have hrd := hlast (by omega)
            rw [if_pos hi0, show wrap64 ((i : Int) - 1) = ((i - 1 : Nat) : Int) by unfold wrap64; omega, if_pos (by omega), if_pos (by omega), hrd]
            have e0 : wrap64 (wrap64 (9223372036854775807 - (nx - 1)) - 1) = 9223372036854775807 - nx := by unfold wrap64; omega
            rw [e0]
            by_cases hbig : (u : Int) > 9223372036854775807 - nx
            · rw [if_pos hbig]
              exact hbad (by omega)
            · rw [if_neg hbig, if_neg (by omega), if_pos (by omega), show wrap64 (wrap64 (nx - 1 + 1) + (u : Int)) = nx + u by unfold wrap64; omega, hp', show wrap64 ((i : Int) + 1) = ((i + 1 : Nat) : Int) by unfold wrap64; omega]
              exact hgo (by omega)
          · have e := hz (by omega)
            subst e
            rw [if_neg hi0, if_pos (by omega), hp', show wrap64 ((i : Int) + 1) = ((i + 1 : Nat) : Int) by unfold wrap64; omega]
            have := hgo (by omega)
            rw [Int.zero_add] at this
            exact this
        · rw [getR_big hst (by omega)]
          rw [if_neg (by simp)]
          refine ⟨_, rfl, ?_, fun _ => rfl⟩
          intro l q h
          obtain ⟨n, l', _, h1, h2, _, _, h3⟩ := hstep l q h
          have := (hst.one h3).1
          omega
      · rw [getR_no hst]
        rw [if_neg (by simp)]
        refine ⟨_, rfl, ?_, fun _ => rfl⟩
        intro l q h
        obtain ⟨n, l', _, _, _, _, _, h3⟩ := hstep l q h
        exact absurd ⟨_, _, h3⟩ hst
    · rw [if_neg (by omega)]
      obtain rfl : i = m := by omega
      refine ⟨_, rfl, ?_, ?_⟩
      · intro l r h
        obtain ⟨h1, h2, h3, h4⟩ := h
        have : l = [] := List.length_eq_zero_iff.mp (by omega)
        subst this
        have h5 := congrArg List.length h4
        rw [List.length_drop, data_length] at h5
        simp only [body, List.nil_append] at h5
        simp only [List.append_nil, Prod.mk.injEq, true_and, and_true]
        omega
      · intro h
        exact absurd ⟨[], s.data.toList.drop p, by simp, rfl, by intro x hx; simp at hx, by simp [body]⟩ h
theorem refDecode_at (s : ByteArray) (hs : s.size ≤ 5000) (a : Int) (k : Nat) (hk : 3 * s.size + 300 < k) : carouselref02_Decode.f k s a = some (decR s a) := by
  unfold carouselref02_Decode.f
  rw [refGet_at s hs a k (by omega)]
  simp only [Option.bind_some]
  have hll : ∀ l q, ListAt s a l q → l.length < 18446744073709551616 := by
    intro l q h
    have := congrArg List.length h.2.2.2.2
    rw [List.length_drop, data_length, List.length_append, listEnc, List.length_append] at this
    have := body_len l 0
    omega
  by_cases hst : ∃ u r, StandsAt s a u r
  · obtain ⟨u, r, hst⟩ := hst
    have hlen := hst.len
    have h0 := hst.1
    have h1 := hst.2.1
    have hrl : (r.length : Int) ≥ 0 := by omega
    have hno : ∀ l q, ListAt s a l q → u = l.length ∧ r = body 0 l ++ q ∧ ups 0 l = true ∧ Small l := by
      intro l q h
      obtain ⟨q', h2, h3, h4, h5⟩ := (listAt_iff h0 h1 (hll l q h)).1 h
      obtain ⟨e1, e2⟩ := hst.one h2
      exact ⟨e1, by rw [e2, h3], h4, h5⟩
    by_cases hu : u ≤ 9223372036854775807
    · rw [getR_yes hst hu, hlen]
      rw [if_pos rfl]
      obtain ⟨p, hp⟩ : ∃ p : Nat, a + (enc u).length = p := ⟨a.toNat + (enc u).length, by omega⟩
      have hdrop : s.data.toList.drop p = r := by
        rw [show p = a.toNat + (enc u).length by omega, ← List.drop_drop, hst.2.2.2, List.drop_left]
      rw [hp]
      obtain ⟨res, hr, g1, g2⟩ := refDecode_loop s hs (s.size - p) p [] 0 u 0 (by omega) (by simp) (by omega) hu (by omega) (by omega) (by omega) (fun _ => rfl) (fun h => by omega) k (by omega)
      rw [show ((0 : Int)) = ((0 : Nat) : Int) by rfl, hr]
      congr 1
      by_cases hl : ∃ l q, ListAt s a l q
      · obtain ⟨l, q, hl⟩ := hl
        obtain ⟨e1, e2, e3, e4⟩ := hno l q hl
        rw [decR_yes hl]
        exact g1 l q ⟨by omega, e3, e4, by rw [hdrop, e2]⟩
      · rw [decR_no hl]
        refine g2 ?_
        rintro ⟨l, q, h2, h3, h4, h5⟩
        refine hl ⟨l, q, (listAt_iff h0 h1 (by omega)).2 ⟨r, ?_, ?_, h3, h4⟩⟩
        · have : l.length = u := by omega
          rw [this]; exact hst
        · rw [← hdrop, h5]
    · rw [getR_big hst (by omega)]
      rw [if_neg (by simp), decR_no]
      rintro ⟨l, q, h⟩
      obtain ⟨e1, e2, _, _⟩ := hno l q h
      have := congrArg List.length e2
      rw [List.length_append] at this
      have := body_len l 0
      omega
  · rw [getR_no hst]
    rw [if_neg (by simp), decR_no]
    rintro ⟨l, q, h⟩
    obtain ⟨q', h2, _⟩ := (listAt_iff h.1 h.2.1 (hll l q h)).1 h
    exact hst ⟨_, _, h2⟩
theorem decR_small (s : ByteArray) (hs : s.size ≤ 5000) (a : Int) : (decR s a).1.length ≤ 5000 := by
  by_cases h : ∃ l r, ListAt s a l r
  · obtain ⟨l, r, h⟩ := h
    rw [decR_yes h]
    show l.length ≤ 5000
    have := congrArg List.length h.2.2.2.2
    rw [List.length_drop, data_length, List.length_append, listEnc, List.length_append] at this
    have := body_len l 0
    omega
  · rw [decR_no h]; simp
theorem GapsDecode : carousellaw02_GapsDecode.Pure := by
  intro s a hs ha
  refine ⟨20000, ?_⟩
  unfold carousellaw02_GapsDecode.f
  by_cases h : (s.size : Int) > 2000
  · rw [if_pos h]
  · rw [if_neg h, Decode_at s (by omega) a 20000 (by omega), refDecode_at s (by omega) a 20000 (by omega)]
    have hsm := decR_small s (by omega) a
    simp only [Option.bind_some]
    rw [Same_at _ _ (by omega) 20000 (by omega)]
    simp only [Option.bind_some, decide_true, if_true]
    rw [does_at (by omega)]
    rfl
end Go.Proofs.Ytpjlnalhaeopeaa.Pure
