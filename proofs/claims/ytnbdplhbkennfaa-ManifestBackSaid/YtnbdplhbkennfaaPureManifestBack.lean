/- What is encoded is decoded; unlike graphs have unlike bytes. No condition. -/
import Derived.Test.YtnbdplhbkennfaaBackWalk
import Derived.Test.YtnbdplhbkennfaaMa
import Derived.Test.YtnbdplhbkennfaaEncode
import Derived.Test.YtnbdplhbkennfaaMb
namespace Go.Proofs.Ytnbdplhbkennfaa.Pure
open Go.RowKit Go.Proofs.Ytnbdplhbkennfaa.QManifestBack Go.Proofs.YtnbdplhbkennfaaW.PrintWords Go.Proofs.YtnbdplhbkennfaaW.PrintLast Go.Proofs.YtnbdplhbkennfaaW.PrintMore Go.Proofs.Ytnbdplhbkennfaa.Ma Go.Proofs.Ytnbdplhbkennfaa.Enc Go.Proofs.Ytnbdplhbkennfaa.Mb
set_option linter.unusedVariables false
set_option linter.unusedSimpArgs false
theorem get_loop (s : ByteArray) (hs : s.size ≤ 140737488351232) (at' : Nat) : ∀ (d i acc : Nat), i + d = 10 → acc < 128 ^ i → at' + i ≤ s.size →
    ∀ k, 2 * d + 1 < k → ∃ res, ints_get.l0 k s (at' : Int) (acc : Int) (mn ((s.size : Int) - at') 10) (i : Int) = some res ∧
      (∀ v r, (i = 0 ∨ 0 < v) → acc + v * 128 ^ i < 18446744073709551616 → s.data.toList.drop (at' + i) = enc v ++ r → res = (((acc + v * 128 ^ i : Nat) : Int), (s.size : Int) - r.length, true)) ∧
      (res.2.2 = true → ∃ v r, (i = 0 ∨ 0 < v) ∧ acc + v * 128 ^ i < 18446744073709551616 ∧ s.data.toList.drop (at' + i) = enc v ++ r) := by
  intro d
  induction d with
  | zero =>
    intro i acc hi ha hat k hk
    obtain ⟨k, rfl⟩ : ∃ m, k = m + 1 := ⟨k - 1, by omega⟩
    obtain rfl : i = 10 := by omega
    simp only [ints_get.l0]
    rw [if_neg (by unfold mn; split <;> omega)]
    refine ⟨_, rfl, ?_, fun h => by simp at h⟩
    intro v r hv hlt _
    have := p128
    omega
  | succ d ih =>
    intro i acc hi ha hat k hk
    obtain ⟨k, rfl⟩ : ∃ m, k = m + 1 := ⟨k - 1, by omega⟩
    simp only [ints_get.l0]
    by_cases hend : at' + i < s.size
    · have hw : wrap64 ((at' : Int) + i) = ((at' + i : Nat) : Int) := by unfold wrap64; omega
      obtain ⟨c, hc, hcb, hdrop⟩ := byte_at s (at' + i) hend
      rw [if_pos (by unfold mn; split <;> omega), hw, if_pos (by omega), if_pos (by omega), hcb]
      obtain ⟨k, rfl⟩ : ∃ m, k = m + 1 := ⟨k - 1, by omega⟩
      have step : ∀ b : Bool, (b = true ↔ i = 9 ∧ 1 < c) → ∃ res, ints_get.j2 (k + 1) s (at' : Int) (acc : Int) (i : Int) (c : Int) (mn ((s.size : Int) - at') 10) (i : Int) b = some res ∧
          (∀ v r, (i = 0 ∨ 0 < v) → acc + v * 128 ^ i < 18446744073709551616 → s.data.toList.drop (at' + i) = enc v ++ r → res = (((acc + v * 128 ^ i : Nat) : Int), (s.size : Int) - r.length, true)) ∧
          (res.2.2 = true → ∃ v r, (i = 0 ∨ 0 < v) ∧ acc + v * 128 ^ i < 18446744073709551616 ∧ s.data.toList.drop (at' + i) = enc v ++ r) := by
        intro b hb
        simp only [ints_get.j2]
        rw [show wrap64 (7 * (i : Int)) = ((7 * i : Nat) : Int) by unfold wrap64; omega, and_127 _ (by omega) (by omega), wrap_u64, show (c : Int) % 128 % 18446744073709551616 = ((c % 128 : Nat) : Int) by omega]
        cases b with
        | true =>
          rw [if_pos rfl]
          refine ⟨_, rfl, ?_, fun h => by simp at h⟩
          obtain ⟨rfl, hc1⟩ := hb.1 rfl
          intro v r hv hlt hd
          exfalso
          rw [hdrop] at hd
          have hp := p128'
          by_cases hv' : v < 128
          · rw [enc_small hv'] at hd
            simp only [List.cons_append, List.nil_append, List.cons.injEq] at hd
            have := u8_inj hc (by omega) hd.1
            have : 2 * 128 ^ 9 ≤ v * 128 ^ 9 := Nat.mul_le_mul_right _ (by omega)
            omega
          · have : 128 * 128 ^ 9 ≤ v * 128 ^ 9 := Nat.mul_le_mul_right _ (by omega)
            omega
        | false =>
          rw [if_neg (by simp), if_pos (by omega)]
          have hnb : ¬ (i = 9 ∧ 1 < c) := fun h => by have := hb.2 h; cases this
          have hfit : acc + (c % 128) * 128 ^ i < 18446744073709551616 := fits ha (by omega) (by omega) hnb
          rw [lay acc (c % 128) i (by omega) ha hfit, hw, show wrap64 (((at' + i : Nat) : Int) + 1) = ((at' + i + 1 : Nat) : Int) by unfold wrap64; omega]
          by_cases hlow : c < 128
          · rw [if_pos (by omega)]
            rw [Nat.mod_eq_of_lt hlow] at *
            have hgood : (0 < c ∨ i = 0) → ∀ v r, (i = 0 ∨ 0 < v) → acc + v * 128 ^ i < 18446744073709551616 → s.data.toList.drop (at' + i) = enc v ++ r →
                ((((acc + c * 128 ^ i : Nat) : Int), ((at' + i + 1 : Nat) : Int), true) : Int × Int × Bool) = (((acc + v * 128 ^ i : Nat) : Int), (s.size : Int) - r.length, true) := by
              intro _ v r hv hlt hd
              rw [hdrop, ← List.singleton_append, ← enc_small hlow] at hd
              obtain ⟨rfl, rfl⟩ := enc_free _ _ _ _ hd
              rw [List.length_drop, data_length]
              congr 2
              omega
            by_cases hc0 : (c : Int) > 0
            · rw [if_pos hc0]
              refine ⟨_, rfl, hgood (.inl (by omega)), fun _ => ⟨c, s.data.toList.drop (at' + i + 1), .inr (by omega), hfit, ?_⟩⟩
              rw [hdrop, enc_small hlow]
              rfl
            · rw [if_neg hc0]
              refine ⟨_, rfl, ?_, ?_⟩
              · intro v r hv hlt hd
                have hd' := hd
                rw [hdrop, ← List.singleton_append, ← enc_small hlow] at hd'
                obtain ⟨rfl, rfl⟩ := enc_free _ _ _ _ hd'
                obtain rfl : i = 0 := by omega
                exact hgood (.inr rfl) _ _ (.inl rfl) hlt hd
              · intro hi0
                have hi0 : i = 0 := by simpa using hi0
                refine ⟨c, s.data.toList.drop (at' + i + 1), .inl hi0, hfit, ?_⟩
                rw [hdrop, enc_small hlow]
                rfl
          · rw [if_neg (by omega), show wrap64 ((i : Int) + 1) = ((i + 1 : Nat) : Int) by unfold wrap64; omega]
            have hi9 : i ≠ 9 := fun h => hnb ⟨h, by omega⟩
            obtain ⟨res, hr, h1, h2⟩ := ih (i + 1) (acc + c % 128 * 128 ^ i) (by omega) (by rw [Nat.pow_succ]; exact grows ha (by omega)) (by omega) k (by omega)
            refine ⟨res, hr, ?_, ?_⟩
            · intro v r hv hlt hd
              rw [hdrop] at hd
              by_cases hv' : v < 128
              · rw [enc_small hv'] at hd
                simp only [List.cons_append, List.nil_append, List.cons.injEq] at hd
                have := u8_inj hc (by omega) hd.1
                omega
              · rw [enc_big (by omega)] at hd
                simp only [List.cons_append, List.cons.injEq] at hd
                have e := u8_inj hc (by omega) hd.1
                have e2 : acc + c % 128 * 128 ^ i + v / 128 * 128 ^ (i + 1) = acc + v * 128 ^ i := parts_of (by omega)
                rw [← e2]
                exact h1 (v / 128) r (.inr (by omega)) (by omega) hd.2
            · intro ht
              obtain ⟨v, r, hv, hlt, hd⟩ := h2 ht
              have e2 : acc + c % 128 * 128 ^ i + v * 128 ^ (i + 1) = acc + (v * 128 + c % 128) * 128 ^ i := by rw [Nat.pow_succ, Nat.add_mul, Nat.mul_assoc, Nat.mul_comm (128 ^ i) 128]; omega
              refine ⟨v * 128 + c % 128, r, .inr (by omega), by omega, ?_⟩
              rw [hdrop, enc_big (by omega), show (v * 128 + c % 128) % 128 + 128 = c by omega, show (v * 128 + c % 128) / 128 = v by omega]
              rw [show at' + (i + 1) = at' + i + 1 by omega] at hd
              rw [hd]
              rfl
      by_cases h9 : (i : Int) = 9
      · rw [if_pos h9]
        refine step _ ?_
        simp only [decide_eq_true_eq]
        omega
      · rw [if_neg h9]
        refine step _ ?_
        simp only [Bool.false_eq_true, false_iff]
        omega
    · rw [if_neg (by unfold mn; split <;> omega)]
      refine ⟨_, rfl, ?_, fun h => by simp at h⟩
      intro v r hv hlt hd
      exfalso
      have := congrArg List.length hd
      rw [List.length_drop, data_length, List.length_append] at this
      have := enc_pos v
      omega
theorem get_at (s : ByteArray) (hs : s.size ≤ 140737488351232) (a : Int) (k : Nat) (hk : 23 < k) : ∃ res, ints_get.f k s a = some res ∧
    (∀ u r, StandsAt s a u r → res = ((u : Int), (s.size : Int) - r.length, true)) ∧ (res.2.2 = true → ∃ u r, StandsAt s a u r) := by
  unfold ints_get.f
  obtain ⟨k, rfl⟩ : ∃ m, k = m + 1 := ⟨k - 1, by omega⟩
  by_cases h0 : a < 0
  · rw [if_pos h0]
    simp only [ints_get.j0, if_true]
    exact ⟨_, rfl, fun u r h => by have := h.1; omega, fun h => by simp at h⟩
  · rw [if_neg h0]
    by_cases h1 : a > (s.size : Int)
    · simp only [ints_get.j0, decide_eq_true h1, if_true]
      exact ⟨_, rfl, fun u r h => by have := h.2.1; omega, fun h => by simp at h⟩
    · simp only [ints_get.j0, decide_eq_false h1, Bool.false_eq_true, if_false]
      obtain ⟨n, rfl⟩ := Int.eq_ofNat_of_zero_le (show 0 ≤ a by omega)
      rw [show wrap64 ((s.size : Int) - n) = (s.size : Int) - n by unfold wrap64; omega]
      obtain ⟨res, hr, g1, g2⟩ := get_loop s hs n 10 0 0 (by omega) (by omega) (by omega) k (by omega)
      refine ⟨res, hr, ?_, ?_⟩
      · intro u r h
        have := g1 u r (.inl rfl) (by have := h.2.2.1; omega) (by have := h.2.2.2; simpa using this)
        simpa using this
      · intro h
        obtain ⟨v, r, _, hlt, hd⟩ := g2 h
        exact ⟨v, r, by omega, by omega, by omega, by simpa using hd⟩
theorem Get_at (s : ByteArray) (hs : s.size ≤ 140737488351232) (a : Int) (k : Nat) (hk : 23 < k) : ints_Get.f k s a = some (getR s a) := by
  obtain ⟨⟨x, y, b⟩, hr, g1, g2⟩ := get_at s hs a k hk
  unfold ints_Get.f
  rw [hr]
  simp only [Option.bind_some]
  by_cases h : ∃ u r, StandsAt s a u r
  · obtain ⟨u, r, h⟩ := h
    have e := g1 u r h
    simp only [Prod.mk.injEq] at e
    obtain ⟨rfl, rfl, rfl⟩ := e
    rw [if_pos rfl]
    by_cases hm : u ≤ 9223372036854775807
    · rw [if_neg (by omega), getR_yes h hm, show wrap64 (u : Int) = u by unfold wrap64; omega]
    · rw [if_pos (by omega), getR_big h (by omega)]
  · have e : b = false := by
      cases b with
      | false => rfl
      | true => exact absurd (g2 rfl) h
    subst e
    rw [if_neg (by simp), getR_no h]
/-! ### gaps.Encode and Check -/
theorem gapAt_of (l : List Int) (hs : Small l) (hu : ups 0 l = true) (j : Nat) (hj : j < l.length) : gapAt l j = l[j]?.getD 0 - nextI l j ∧ 0 ≤ gapAt l j ∧ gapAt l j ≤ 9223372036854775807 ∧ 0 ≤ nextI l j := by
  obtain ⟨h1, h2, h3, h4⟩ := ups_drop l hs l.length 0 (by omega) (by simp [nextI]) (by simpa [nextI] using hu) j (by omega) hj
  have e : gapAt l j = l[j]?.getD 0 - nextI l j := by
    unfold gapAt
    rw [h1]
    unfold wrap64
    omega
  exact ⟨e, by omega, by omega, h2⟩
theorem gapsOk_of (l : List Int) (hs : Small l) (hu : ups 0 l = true) : gapsOk l = true := by
  unfold gapsOk
  rw [List.all_eq_true]
  intro j hj
  obtain ⟨_, h2, h3, _⟩ := gapAt_of l hs hu j (List.mem_range.mp hj)
  simp [h2, h3]
theorem gapF_of (l : List Int) (hs : Small l) (hu : ups 0 l = true) (j : Nat) (hj : j < l.length) : (gapF l j).1 = l[j]?.getD 0 - nextI l j := by
  obtain ⟨h1, h2, h3, _⟩ := gapAt_of l hs hu j hj
  unfold gapF
  rw [dif_pos ⟨h2, h3⟩]
  exact h1
theorem gaps_tail (l : List Int) (hs : Small l) (hu : ups 0 l = true) : ∀ (d j : Nat), j + d = l.length →
    ((List.range d).map fun i => gapF l (j + i)).flatMap (fun x => (encB' x.1.toNat).data.toList) = body (nextI l j) (l.drop j) := by
  intro d
  induction d with
  | zero => intro j hj; rw [List.drop_of_length_le (by omega)]; simp [body]
  | succ d ih =>
    intro j hj
    have hlt : j < l.length := by omega
    have hg : l[j]?.getD 0 = l[j] := by simp [hlt]
    have hn : nextI l (j + 1) = l[j] + 1 := by unfold nextI; rw [if_neg (by omega), Nat.add_sub_cancel, hg]
    obtain ⟨h1, h2, h3, h4⟩ := gapAt_of l hs hu j hlt
    rw [List.drop_eq_getElem_cons hlt, body_cons, List.range_succ_eq_map, List.map_cons, List.flatMap_cons, ← hn, ← ih (j + 1) (by omega), List.map_map]
    congr 1
    · rw [Nat.add_zero, gapF_of l hs hu j hlt, hg, encB'_of (by have := hs l[j] (List.getElem_mem hlt); omega)]
      rfl
    · congr 2
      funext i
      simp only [Function.comp_apply]
      congr 1
      omega
theorem gapsBytes_of (l : List Int) (hs : Small l) (hu : ups 0 l = true) (hl : l.length ≤ 1000000000) : gapsBytes l = listEnc l := by
  unfold gapsBytes bytesL listEnc upto
  rw [encB'_of (by omega)]
  congr 1
  have := gaps_tail l hs hu l.length 0 (by omega)
  simpa [nextI] using this
theorem check_loop (l : List Int) (hl : ∀ x ∈ l, -9223372036854775808 ≤ x ∧ x ≤ 9223372036854775807) (hn : l.length ≤ 1000000000) : ∀ (d j : Nat) (last : Int), j + d = l.length → ∀ k, d < k →
    gaps_Check.l0 k last l (l.length : Int) (j : Int) = some (if ups (last + 1) (l.drop j) = true then 0 else 2) := by
  intro d
  induction d with
  | zero =>
    intro j last hj k hk
    obtain ⟨k, rfl⟩ : ∃ m, k = m + 1 := ⟨k - 1, by omega⟩
    simp only [gaps_Check.l0]
    rw [if_neg (by omega), List.drop_of_length_le (by omega)]
    simp [ups]
  | succ d ih =>
    intro j last hj k hk
    obtain ⟨k, rfl⟩ : ∃ m, k = m + 1 := ⟨k - 1, by omega⟩
    have hlt : j < l.length := by omega
    have hm := hl l[j] (List.getElem_mem hlt)
    have hr : rd l (j : Int) = l[j] := by simp [rd, List.getD, hlt]
    simp only [gaps_Check.l0]
    rw [if_pos (by omega), if_pos (by omega), if_pos (by omega), hr, List.drop_eq_getElem_cons hlt]
    by_cases h : l[j] ≤ last
    · rw [if_pos h, if_neg (by rw [ups_cons]; omega)]
    · rw [if_neg h, show wrap64 ((j : Int) + 1) = ((j + 1 : Nat) : Int) by unfold wrap64; omega, ih (j + 1) l[j] (by omega) k (by omega)]
      congr 2
      rw [eq_iff_iff, ups_cons]
      exact ⟨fun h' => ⟨by omega, h'⟩, fun h' => h'.2⟩
theorem Check_at (l : List Int) (hl : ∀ x ∈ l, -9223372036854775808 ≤ x ∧ x ≤ 9223372036854775807) (hn : l.length ≤ 1000000000) (k : Nat) (hk : l.length < k) : gaps_Check.f k l = some (if ups 0 l = true then 0 else 2) := by
  unfold gaps_Check.f
  exact check_loop l hl hn l.length 0 (-1) (by omega) k hk
theorem Encode_at (l : List Int) (hl : ∀ x ∈ l, -9223372036854775808 ≤ x ∧ x ≤ 9223372036854775807) (hn : l.length ≤ 1000000000) (k : Nat) (hk : l.length < k) :
    gaps_Encode.f k l = some (if ups 0 l = true then (⟨(listEnc l).toArray⟩, 0) else (⟨#[]⟩, 2)) := by
  unfold gaps_Encode.f
  rw [Check_at l hl hn k hk]
  have hs : Small l := fun x hx => (hl x hx).2
  by_cases h : ups 0 l = true
  · rw [if_pos h, if_pos h, Option.bind_some, if_pos rfl, if_pos ⟨hn, gapsOk_of l hs h⟩, gapsBytes_of l hs h hn]
  · rw [if_neg h, if_neg h, Option.bind_some, if_neg (by omega)]
/-! ### gaps.Decode -/
theorem decode_loop (s : ByteArray) (hs : s.size ≤ 1000000) : ∀ (rem p : Nat) (acc : List Int) (last : Int) (m i : Nat), p + rem = s.size → acc.length ≤ p → i ≤ m → m ≤ 9223372036854775807 → i ≤ p → -1 ≤ last → last ≤ 9223372036854775807 → ∀ k, rem + 30 < k →
    ∃ res, gaps_Decode.l0 k s acc (p : Int) last (m : Int) (i : Int) = some res ∧
      (∀ l r, RestAt s p (last + 1) ((m : Int) - i) l r → res = (acc ++ l, (s.size : Int) - r.length, 0)) ∧ ((¬ ∃ l r, RestAt s p (last + 1) ((m : Int) - i) l r) → res = ([], 0, 10)) := by
  intro rem
  induction rem using Nat.strongRecOn with
  | ind rem ih =>
    intro p acc last m i hp hacc him hm hip hl0 hl1 k hk
    obtain ⟨k, rfl⟩ : ∃ j, k = j + 1 := ⟨k - 1, by omega⟩
    simp only [gaps_Decode.l0]
    by_cases hi : i < m
    · rw [if_pos (by omega), Get_at s (by omega) _ k (by omega)]
      simp only [Option.bind_some]
      have hstep : ∀ l r, RestAt s p (last + 1) ((m : Int) - i) l r → ∃ n l', l = n :: l' ∧ last + 1 ≤ n ∧ n ≤ 9223372036854775807 ∧ ups (n + 1) l' = true ∧ Small l' ∧ StandsAt s (p : Int) (n - (last + 1)).toNat (body (n + 1) l' ++ r) := by
        intro l r h
        obtain ⟨h1, h2, h3, h4⟩ := h
        cases l with
        | nil => simp at h1; omega
        | cons n l' =>
          rw [ups_cons] at h2
          have hn := h3 n List.mem_cons_self
          rw [body_cons, List.append_assoc] at h4
          exact ⟨n, l', rfl, h2.1, hn, h2.2, fun x hx => h3 x (List.mem_cons_of_mem _ hx), by omega, by omega, by omega, by rw [Int.toNat_natCast]; exact h4⟩
      by_cases hst : ∃ u r, StandsAt s (p : Int) u r
      · obtain ⟨u, r, hst⟩ := hst
        have hlen := hst.len
        have hp1 := enc_pos u
        have hrl : (r.length : Int) ≥ 0 := by omega
        by_cases hu : u ≤ 9223372036854775807
        · rw [getR_yes hst hu]
          rw [if_pos rfl]
          by_cases hmax : last = 9223372036854775807
          · rw [if_pos hmax]
            refine ⟨_, rfl, ?_, fun _ => rfl⟩
            intro l q h
            obtain ⟨n, l', _, h1, h2, _⟩ := hstep l q h
            omega
          · rw [if_neg hmax, show wrap64 (9223372036854775806 - last) = 9223372036854775806 - last by unfold wrap64; omega]
            by_cases hbig : (u : Int) > 9223372036854775806 - last
            · rw [if_pos hbig]
              refine ⟨_, rfl, ?_, fun _ => rfl⟩
              intro l q h
              obtain ⟨n, l', _, h1, h2, _, _, h3⟩ := hstep l q h
              have := (hst.one h3).1
              omega
            · rw [if_neg hbig, if_pos (by omega)]
              have e1 : wrap64 (last + wrap64 ((u : Int) + 1)) = last + 1 + u := by unfold wrap64; omega
              obtain ⟨p', hp'⟩ : ∃ p' : Nat, (s.size : Int) - r.length = p' := ⟨p + (enc u).length, by rw [hlen]; omega⟩
              have hpp : p' = p + (enc u).length := by omega
              have hdrop : s.data.toList.drop p' = r := by
                have h4 := hst.2.2.2
                rw [Int.toNat_natCast] at h4
                rw [hpp, ← List.drop_drop, h4, List.drop_left]
              have hp's : p' ≤ s.size := by omega
              rw [e1, hp', show wrap64 ((i : Int) + 1) = ((i + 1 : Nat) : Int) by unfold wrap64; omega]
              obtain ⟨res, hr, g1, g2⟩ := ih (s.size - p') (by omega) p' (acc ++ [last + 1 + u]) (last + 1 + u) m (i + 1) (by omega) (by simp; omega) (by omega) hm (by omega) (by omega) (by omega) k (by omega)
              refine ⟨res, hr, ?_, ?_⟩
              · intro l q h
                obtain ⟨n, l', rfl, h1, h2, h3, h5, h6⟩ := hstep l q h
                obtain ⟨eu, er⟩ := hst.one h6
                have en : n = last + 1 + u := by omega
                subst en
                have := g1 l' q ⟨by have := h.1; simp at this ⊢; omega, h3, h5, by rw [hdrop, er]⟩
                rw [this, List.append_assoc]
                rfl
              · intro h
                refine g2 ?_
                rintro ⟨l', q, h1, h2, h3, h4⟩
                refine h ⟨(last + 1 + u) :: l', q, by simp at h1 ⊢; omega, by rw [ups_cons]; exact ⟨by omega, h2⟩, ?_, ?_⟩
                · intro x hx
                  rcases List.mem_cons.mp hx with rfl | hx
                  · omega
                  · exact h3 x hx
                · have h5 := hst.2.2.2
                  rw [Int.toNat_natCast] at h5
                  rw [h5, body_cons, List.append_assoc, ← h4, hdrop]
                  congr 2
                  omega
        · rw [getR_big hst (by omega)]
          rw [if_neg (by simp)]
          refine ⟨_, rfl, ?_, fun _ => rfl⟩
          intro l q h
          obtain ⟨n, l', _, h1, h2, _, _, h3⟩ := hstep l q h
          have := (hst.one h3).1
          omega
      · rw [getR_no hst]
        rw [if_neg (by simp)]
        refine ⟨_, rfl, ?_, fun _ => rfl⟩
        intro l q h
        obtain ⟨n, l', _, _, _, _, _, h3⟩ := hstep l q h
        exact absurd ⟨_, _, h3⟩ hst
    · rw [if_neg (by omega)]
      obtain rfl : i = m := by omega
      refine ⟨_, rfl, ?_, ?_⟩
      · intro l r h
        obtain ⟨h1, h2, h3, h4⟩ := h
        have : l = [] := List.length_eq_zero_iff.mp (by omega)
        subst this
        have h5 := congrArg List.length h4
        rw [List.length_drop, data_length] at h5
        simp only [body, List.nil_append] at h5
        simp only [List.append_nil, Prod.mk.injEq, true_and, and_true]
        omega
      · intro h
        exact absurd ⟨[], s.data.toList.drop p, by simp, rfl, by intro x hx; simp at hx, by simp [body]⟩ h
theorem Decode_at (s : ByteArray) (hs : s.size ≤ 1000000) (a : Int) (k : Nat) (hk : s.size + 40 < k) : gaps_Decode.f k s a = some (decR s a) := by
  unfold gaps_Decode.f
  rw [Get_at s (by omega) a k (by omega)]
  obtain ⟨k, rfl⟩ : ∃ j, k = j + 1 := ⟨k - 1, by omega⟩
  simp only [Option.bind_some]
  by_cases hst : ∃ u r, StandsAt s a u r
  · obtain ⟨u, r, hst⟩ := hst
    have hlen := hst.len
    have h0 := hst.1
    have h1 := hst.2.1
    have hrl : (r.length : Int) ≥ 0 := by omega
    have hno : ∀ l q, ListAt s a l q → u = l.length ∧ r = body 0 l ++ q ∧ ups 0 l = true ∧ Small l := by
      intro l q h
      have hll : l.length < 18446744073709551616 := by
        have := congrArg List.length h.2.2.2.2
        rw [List.length_drop, data_length, List.length_append, listEnc, List.length_append] at this
        have := body_len l 0
        omega
      obtain ⟨q', h2, h3, h4, h5⟩ := (listAt_iff h0 h1 hll).1 h
      obtain ⟨e1, e2⟩ := hst.one h2
      exact ⟨e1, by rw [e2, h3], h4, h5⟩
    by_cases hu : u ≤ 9223372036854775807
    · rw [getR_yes hst hu, hlen]
      rw [if_pos rfl]
      simp only [gaps_Decode.j0]
      rw [show wrap64 ((s.size : Int) - (a + (enc u).length)) = (s.size : Int) - (a + (enc u).length) by unfold wrap64; omega]
      by_cases hbig : (u : Int) > (s.size : Int) - (a + (enc u).length)
      · rw [if_pos (decide_eq_true hbig), decR_no]
        rintro ⟨l, q, h⟩
        obtain ⟨e1, e2, _, _⟩ := hno l q h
        have := congrArg List.length e2
        rw [List.length_append] at this
        have := body_len l 0
        omega
      · rw [if_neg (by simpa using hbig)]
        obtain ⟨p, hp⟩ : ∃ p : Nat, a + (enc u).length = p := ⟨a.toNat + (enc u).length, by omega⟩
        have hdrop : s.data.toList.drop p = r := by
          rw [show p = a.toNat + (enc u).length by omega, ← List.drop_drop, hst.2.2.2, List.drop_left]
        rw [hp]
        obtain ⟨res, hr, g1, g2⟩ := decode_loop s hs (s.size - p) p [] (-1) u 0 (by omega) (by simp) (by omega) hu (by omega) (by omega) (by omega) k (by omega)
        rw [show ((0 : Int)) = ((0 : Nat) : Int) by rfl, hr]
        congr 1
        by_cases hl : ∃ l q, ListAt s a l q
        · obtain ⟨l, q, hl⟩ := hl
          obtain ⟨e1, e2, e3, e4⟩ := hno l q hl
          rw [decR_yes hl]
          exact g1 l q ⟨by omega, e3, e4, by rw [hdrop, e2]; rfl⟩
        · rw [decR_no hl]
          refine g2 ?_
          rintro ⟨l, q, h2, h3, h4, h5⟩
          refine hl ⟨l, q, (listAt_iff h0 h1 (by omega)).2 ⟨r, ?_, ?_, h3, h4⟩⟩
          · have : l.length = u := by omega
            rw [this]; exact hst
          · rw [← hdrop, h5]; rfl
    · rw [getR_big hst (by omega)]
      rw [if_neg (by simp)]
      simp only [gaps_Decode.j0, if_true]
      rw [decR_no]
      rintro ⟨l, q, h⟩
      obtain ⟨e1, e2, _, _⟩ := hno l q h
      have := congrArg List.length e2
      rw [List.length_append] at this
      have := body_len l 0
      omega
  · rw [getR_no hst]
    rw [if_neg (by simp)]
    simp only [gaps_Decode.j0, if_true]
    rw [decR_no]
    rintro ⟨l, q, h⟩
    have hll : l.length < 18446744073709551616 := by
      have := congrArg List.length h.2.2.2.2
      rw [List.length_drop, data_length, List.length_append, listEnc, List.length_append] at this
      have := body_len l 0
      omega
    obtain ⟨q', h2, _⟩ := (listAt_iff h.1 h.2.1 hll).1 h
    exact hst ⟨_, _, h2⟩
theorem list_toList (l : List UInt8) : (⟨l.toArray⟩ : ByteArray).toList = l := by rw [Lib.toList_data]
theorem list_size (l : List UInt8) : (⟨l.toArray⟩ : ByteArray).size = l.length := by unfold ByteArray.size; simp
theorem body_le : ∀ (l : List Int) (nx : Int), 0 ≤ nx → (∀ x ∈ l, x ≤ 9223372036854775807) → (body nx l).length ≤ 10 * l.length ∨ ups nx l = false := by
  intro l
  induction l with
  | nil => intro nx _ _; left; simp [body]
  | cons n l ih =>
    intro nx h0 hl
    by_cases h : nx ≤ n
    · have hn := hl n List.mem_cons_self
      rcases ih (n + 1) (by omega) (fun x hx => hl x (List.mem_cons_of_mem _ hx)) with h1 | h1
      · left
        rw [body_cons, List.length_append, List.length_cons]
        have := enc_len10 (u := (n - nx).toNat) (by omega)
        omega
      · right
        simp [ups, h1]
    · right
      simp [ups, h]
theorem listEnc_le (l : List Int) (hl : ∀ x ∈ l, -9223372036854775808 ≤ x ∧ x ≤ 9223372036854775807) (hn : l.length ≤ 1000000000) : (listEnc l).length ≤ 10 * l.length + 10 ∨ ups 0 l = false := by
  rcases body_le l 0 (by omega) (fun x hx => (hl x hx).2) with h | h
  · left
    unfold listEnc
    rw [List.length_append]
    have := enc_len10 (u := l.length) (by omega)
    omega
  · exact .inr h
theorem decR_small (s : ByteArray) (hs : s.size ≤ 5000) (a : Int) : (decR s a).1.length ≤ 5000 := by
  by_cases h : ∃ l r, ListAt s a l r
  · obtain ⟨l, r, h⟩ := h
    rw [decR_yes h]
    show l.length ≤ 5000
    have := congrArg List.length h.2.2.2.2
    rw [List.length_drop, data_length, List.length_append, listEnc, List.length_append] at this
    have := body_len l 0
    omega
  · rw [decR_no h]; simp
theorem ups_bound : ∀ (l : List Int) (nx : Int), 0 ≤ nx → ups nx l = true → ∀ x ∈ l, 0 ≤ x := by
  intro l
  induction l with
  | nil => intro nx _ _ x hx; simp at hx
  | cons n l ih =>
    intro nx h0 hu x hx
    rw [ups_cons] at hu
    rcases List.mem_cons.mp hx with rfl | hx
    · omega
    · exact ih (n + 1) (by omega) hu.2 x hx
/-! ### manifest: parts and their ends -/
def betw : Int → List Int → List S50
  | _, [] => []
  | fr, t :: l => ⟨fr, t⟩ :: betw t l
theorem betw_len (l : List Int) : ∀ fr, (betw fr l).length = l.length := by
  induction l with
  | nil => intro _; rfl
  | cons t l ih => intro fr; simp [betw, ih]
theorem betw_ends (l : List Int) : ∀ fr, (betw fr l).map (·.f1) = l := by
  induction l with
  | nil => intro _; rfl
  | cons t l ih => intro fr; simp [betw, ih]
theorem between_loop (l : List Int) (hn : l.length ≤ 1000000) : ∀ (d i : Nat) (acc : List S50) (fr : Int), i + d = l.length → acc.length = i → ∀ k, d < k →
    manifest_between.l0 k acc fr l (l.length : Int) (i : Int) = some (acc ++ betw fr (l.drop i)) := by
  intro d
  induction d with
  | zero =>
    intro i acc fr hi ha k hk
    obtain ⟨k, rfl⟩ : ∃ m, k = m + 1 := ⟨k - 1, by omega⟩
    simp only [manifest_between.l0]
    rw [if_neg (by omega), List.drop_of_length_le (by omega)]
    simp [betw]
  | succ d ih =>
    intro i acc fr hi ha k hk
    obtain ⟨k, rfl⟩ : ∃ m, k = m + 1 := ⟨k - 1, by omega⟩
    have hlt : i < l.length := by omega
    have hr : rd l (i : Int) = l[i] := by simp [rd, List.getD, hlt]
    simp only [manifest_between.l0]
    rw [if_pos (by omega), if_pos (by omega), if_pos (by omega), if_pos (by omega), hr, show wrap64 ((i : Int) + 1) = ((i + 1 : Nat) : Int) by unfold wrap64; omega, ih (i + 1) _ _ (by omega) (by simp; omega) k (by omega), List.drop_eq_getElem_cons hlt]
    simp [betw]
theorem between_at (l : List Int) (hn : l.length ≤ 1000000) (k : Nat) (hk : l.length < k) : manifest_between.f k l = some (betw 0 l) := by
  unfold manifest_between.f
  have := between_loop l hn l.length 0 [] 0 (by omega) rfl k hk
  simpa using this
theorem ends_loop (l : List S50) (hn : l.length ≤ 1000000) : ∀ (d i : Nat) (acc : List Int), i + d = l.length → acc.length = i → ∀ k, d < k →
    manifest_ends.l0 k acc l (l.length : Int) (i : Int) = some (acc ++ (l.drop i).map (·.f1)) := by
  intro d
  induction d with
  | zero =>
    intro i acc hi ha k hk
    obtain ⟨k, rfl⟩ : ∃ m, k = m + 1 := ⟨k - 1, by omega⟩
    simp only [manifest_ends.l0]
    rw [if_neg (by omega), List.drop_of_length_le (by omega)]
    simp
  | succ d ih =>
    intro i acc hi ha k hk
    obtain ⟨k, rfl⟩ : ∃ m, k = m + 1 := ⟨k - 1, by omega⟩
    have hlt : i < l.length := by omega
    have hr : rd_T50 l (i : Int) = l[i] := by simp [rd_T50, List.getD, hlt]
    simp only [manifest_ends.l0]
    rw [if_pos (by omega), if_pos (by omega), if_pos (by omega), if_pos (by omega), hr, show wrap64 ((i : Int) + 1) = ((i + 1 : Nat) : Int) by unfold wrap64; omega, ih (i + 1) _ (by omega) (by simp; omega) k (by omega), List.drop_eq_getElem_cons hlt, List.map_cons, List.append_assoc]
    rfl
theorem ends_at (l : List S50) (hn : l.length ≤ 1000000) (k : Nat) (hk : l.length < k) : manifest_ends.f k l = some (l.map (·.f1)) := by
  unfold manifest_ends.f
  have := ends_loop l hn l.length 0 [] (by omega) rfl k hk
  simpa using this
theorem parts_loop (l : List S50) (n : Int) (hn : l.length ≤ 1000000) : ∀ (d i : Nat) (at' : Int), i + d = l.length → ∀ k, d < k → ∃ e, parts_Check.l0 k n at' l (l.length : Int) (i : Int) = some e ∧ (e = 0 ∨ e = 2) := by
  intro d
  induction d with
  | zero =>
    intro i at' hi k hk
    obtain ⟨k, rfl⟩ : ∃ m, k = m + 1 := ⟨k - 1, by omega⟩
    simp only [parts_Check.l0]
    rw [if_neg (by omega)]
    by_cases h : at' = n
    · exact ⟨0, by rw [if_pos h], .inl rfl⟩
    · exact ⟨2, by rw [if_neg h], .inr rfl⟩
  | succ d ih =>
    intro i at' hi k hk
    obtain ⟨k, rfl⟩ : ∃ m, k = m + 1 := ⟨k - 1, by omega⟩
    simp only [parts_Check.l0]
    rw [if_pos (by omega), if_pos (by omega), if_pos (by omega), show wrap64 ((i : Int) + 1) = ((i + 1 : Nat) : Int) by unfold wrap64; omega]
    split
    · split
      · exact ⟨2, rfl, .inr rfl⟩
      · exact ih (i + 1) _ (by omega) k (by omega)
    · exact ⟨2, rfl, .inr rfl⟩
theorem manCheck_some (v e : Int) (l : List S50) (k : Nat) (hn : l.length ≤ 1000000) (hk : l.length + 1 < k) : ∃ r, manifest_Check.f k v e l = some r ∧ (r = 0 ∨ r = 2) ∧ (r = 0 → 0 ≤ e ∧ e ≤ 4096 ∧ 1 ≤ v ∧ v ≤ 256 ∧ l.length ≤ 16) := by
  obtain ⟨k, rfl⟩ : ∃ m, k = m + 1 := ⟨k - 1, by omega⟩
  unfold manifest_Check.f parts_Check.f
  by_cases h1 : e < 0
  · exact ⟨2, by rw [if_pos h1], .inr rfl, fun h => by omega⟩
  · rw [if_neg h1]
    by_cases h2 : e > 4096
    · exact ⟨2, by rw [if_pos h2], .inr rfl, fun h => by omega⟩
    · rw [if_neg h2]
      have ht : parts_Check.j0 (k + 1) v l true = some 2 := by simp only [parts_Check.j0, if_true]
      by_cases h3 : v < 1
      · exact ⟨2, by rw [if_pos h3, ht]; rfl, .inr rfl, fun h => by omega⟩
      · rw [if_neg h3]
        by_cases h4 : v > 256
        · exact ⟨2, by rw [if_pos h4, ht]; rfl, .inr rfl, fun h => by omega⟩
        · rw [if_neg h4]
          by_cases h5 : (l.length : Int) > 16
          · exact ⟨2, by rw [decide_eq_true h5, ht]; rfl, .inr rfl, fun h => by omega⟩
          · rw [decide_eq_false h5]
            simp only [parts_Check.j0, Bool.false_eq_true, if_false]
            obtain ⟨r, hr, h6⟩ := parts_loop l v hn l.length 0 0 (by omega) k (by omega)
            refine ⟨r, ?_, h6, fun _ => by omega⟩
            have hr' : parts_Check.l0 k v 0 l (l.length : Int) 0 = some r := hr
            rw [hr']
            rfl
/-! ### the sum -/
theorem in_some (r c : Int) (k : Nat) (hk : 8 < k) : ∃ v, sums_register_in.f k r c = some v := by
  unfold sums_register_in.f
  have : ∀ (d i : Nat) (x : Int), i + d = 8 → ∀ k, d < k → ∃ v, sums_register_in.l0 k x (i : Int) = some v := by
    intro d
    induction d with
    | zero =>
      intro i x hi k hk
      obtain ⟨k, rfl⟩ : ∃ m, k = m + 1 := ⟨k - 1, by omega⟩
      simp only [sums_register_in.l0]
      exact ⟨x, by rw [if_neg (by omega)]⟩
    | succ d ih =>
      intro i x hi k hk
      obtain ⟨k, rfl⟩ : ∃ m, k = m + 1 := ⟨k - 1, by omega⟩
      simp only [sums_register_in.l0, sums_register_up.f, Option.bind_some]
      rw [if_pos (by omega), show wrap64 ((i : Int) + 1) = ((i + 1 : Nat) : Int) by unfold wrap64; omega]
      exact ih (i + 1) _ (by omega) k (by omega)
  exact this 8 0 _ (by omega) k hk
theorem more_some (s : ByteArray) (hs : s.size ≤ 1000000) : ∀ (d i : Nat) (r : Int), i + d = s.size → ∀ k, d + 10 < k → ∃ v, sums_More.l0 k s r (s.size : Int) (i : Int) = some v := by
  intro d
  induction d with
  | zero =>
    intro i r hi k hk
    obtain ⟨k, rfl⟩ : ∃ m, k = m + 1 := ⟨k - 1, by omega⟩
    simp only [sums_More.l0]
    exact ⟨_, by rw [if_neg (by omega)]⟩
  | succ d ih =>
    intro i r hi k hk
    obtain ⟨k, rfl⟩ : ∃ m, k = m + 1 := ⟨k - 1, by omega⟩
    simp only [sums_More.l0]
    obtain ⟨v, hv⟩ := in_some r (bt s (i : Int)) k (by omega)
    rw [if_pos (by omega), if_pos (by omega), if_pos (by omega), hv, Option.bind_some, show wrap64 ((i : Int) + 1) = ((i + 1 : Nat) : Int) by unfold wrap64; omega]
    exact ih (i + 1) _ (by omega) k (by omega)
/-- A text's sum, as four bytes. -/
def sumB (s : ByteArray) : ByteArray := (manifest_sum.f (s.size + 20) s).getD ⟨#[]⟩
theorem sum_at (s : ByteArray) (hs : s.size ≤ 1000000) (k : Nat) (hk : s.size + 20 ≤ k) : manifest_sum.f k s = some (sumB s) ∧ (sumB s).size = 4 := by
  obtain ⟨v, hv⟩ := more_some s hs s.size 0 (Go.bits .xor .u32 4294967295 0) (by omega) (s.size + 20) (by omega)
  have e : manifest_sum.f (s.size + 20) s = some (strOfNums [v % 256, (v / 256) % 256, (v / 65536) % 256, (v / 16777216) % 256]) := by
    unfold manifest_sum.f sums_Sum.f sums_More.f
    rw [show ((0 : Int)) = ((0 : Nat) : Int) by rfl] at hv ⊢
    rw [hv]
    rfl
  have e2 : sumB s = strOfNums [v % 256, (v / 256) % 256, (v / 65536) % 256, (v / 16777216) % 256] := by unfold sumB; rw [e]; rfl
  refine ⟨?_, by rw [e2, strOfNums_size]; rfl⟩
  rw [e2]
  exact at_rounds (g := fun k => manifest_sum.f k s) (fun k => manifest_sum.mono s k) hk e
/-! ### Encode and Decode -/
def bodyL (v e : Nat) (l : List Int) : List UInt8 := [99, 97, 114] ++ (enc v ++ (enc e ++ listEnc l))
def bodyB (v e : Nat) (l : List Int) : ByteArray := ⟨(bodyL v e l).toArray⟩
theorem manEncode_at (v e : Nat) (ps : List S50) (k : Nat) (hr : manifest_Check.f k v e ps = some 0) (hv : v ≤ 256) (he : e ≤ 4096) (hl : ps.length ≤ 16) (hu : ups 0 (ps.map (·.f1)) = true) (hs : ∀ x ∈ ps.map (·.f1), -9223372036854775808 ≤ x ∧ x ≤ 9223372036854775807) (hk : 1000 < k) :
    manifest_Encode.f k v e ps = some (bodyB v e (ps.map (·.f1)) ++ sumB (bodyB v e (ps.map (·.f1))), 0) ∧ (bodyB v e (ps.map (·.f1))).size ≤ 300 := by
  have hlen : (ps.map (·.f1)).length ≤ 16 := by rw [List.length_map]; exact hl
  have hb : (listEnc (ps.map (·.f1))).length ≤ 10 * (ps.map (·.f1)).length + 10 := by rcases listEnc_le _ hs (by omega) with h | h; exact h; rw [hu] at h; cases h
  have h1 := enc_len10 (u := v) (by omega)
  have h2 := enc_len10 (u := e) (by omega)
  have hjoin : joinL [(⟨#[99, 97, 114]⟩ : ByteArray), encB v, encB e, ⟨(listEnc (ps.map (·.f1))).toArray⟩] = bodyL v e (ps.map (·.f1)) := by
    simp [joinL, bodyL, encB]
  have hsz : (bodyB v e (ps.map (·.f1))).size ≤ 300 := by
    unfold bodyB bodyL
    rw [list_size]
    simp only [List.length_append, List.length_cons, List.length_nil]
    omega
  obtain ⟨hsum, hs4⟩ := sum_at (bodyB v e (ps.map (·.f1))) (by omega) k (by omega)
  refine ⟨?_, hsz⟩
  unfold manifest_Encode.f
  rw [hr, Option.bind_some, if_pos rfl, ends_at ps (by omega) k (by omega), Option.bind_some, Encode_at _ hs (by omega) k (by omega), if_pos hu, Option.bind_some]
  dsimp only
  rw [if_pos rfl, Put_at (by omega) (by omega) k (by omega), Option.bind_some, Put_at (by omega) (by omega) k (by omega), Option.bind_some, Int.toNat_natCast, Int.toNat_natCast]
  unfold manifest_join.f
  rw [hjoin, if_pos (by
    have := hsz
    unfold bodyB at this
    rw [list_size] at this
    simp only [List.length_cons, List.length_nil]
    omega), Option.bind_some]
  rw [show (⟨(bodyL v e (ps.map (·.f1))).toArray⟩ : ByteArray) = bodyB v e (ps.map (·.f1)) from rfl, hsum, Option.bind_some, if_pos (by omega)]
theorem getR_fact {s : ByteArray} {a x n : Int} (h : getR s a = (x, n, true)) : ∃ u r, StandsAt s a u r ∧ x = (u : Int) ∧ u ≤ 9223372036854775807 ∧ n = (s.size : Int) - r.length := by
  by_cases hst : ∃ u r, StandsAt s a u r
  · obtain ⟨u, r, hst⟩ := hst
    by_cases hu : u ≤ 9223372036854775807
    · rw [getR_yes hst hu] at h
      simp only [Prod.mk.injEq] at h
      exact ⟨u, r, hst, h.1.symm, hu, h.2.1.symm⟩
    · rw [getR_big hst (by omega)] at h
      simp at h
  · rw [getR_no hst] at h
    simp at h
theorem decR_fact {s : ByteArray} {a n : Int} {l : List Int} (h : decR s a = (l, n, 0)) : ∃ r, ListAt s a l r ∧ n = (s.size : Int) - r.length := by
  by_cases hst : ∃ l r, ListAt s a l r
  · obtain ⟨l', r, hst⟩ := hst
    rw [decR_yes hst] at h
    simp only [Prod.mk.injEq] at h
    obtain ⟨rfl, h2, _⟩ := h
    exact ⟨r, hst, h2.symm⟩
  · rw [decR_no hst] at h
    simp at h
theorem drop_rest {s : ByteArray} {a : Int} {u : Nat} {r : List UInt8} (h : StandsAt s a u r) {n : Int} (hn : n = (s.size : Int) - r.length) : s.data.toList.drop n.toNat = r := by
  have hl := h.len
  have h0 := h.1
  rw [show n.toNat = a.toNat + (enc u).length by omega, ← List.drop_drop, h.2.2.2, List.drop_left]
theorem body_ex : bodyB 10 300 [4, 10] = ⟨#[99, 97, 114, 10, 172, 2, 2, 4, 5]⟩ := by
  have h : bodyL 10 300 [4, 10] = [99, 97, 114, 10, 172, 2, 2, 4, 5] := by
    show [99, 97, 114] ++ (enc 10 ++ (enc 300 ++ (enc 2 ++ (enc 4 ++ (enc 5 ++ []))))) = _
    rw [enc_big (u := 300) (by omega), enc_small (u := 10) (by omega), enc_small (u := 2) (by omega), enc_small (u := 4) (by omega), enc_small (u := 5) (by omega)]
    decide
  unfold bodyB
  rw [h]
theorem sum_ex0 : manifest_sum.f 29 (⟨#[99, 97, 114, 10, 172, 2, 2, 4, 5]⟩ : ByteArray) = some ⟨#[119, 180, 150, 77]⟩ := by kernel_rfl
theorem sum_ex : sumB (⟨#[99, 97, 114, 10, 172, 2, 2, 4, 5]⟩ : ByteArray) = ⟨#[119, 180, 150, 77]⟩ := by
  unfold sumB
  rw [show (⟨#[99, 97, 114, 10, 172, 2, 2, 4, 5]⟩ : ByteArray).size + 20 = 29 from rfl, sum_ex0]
  rfl
theorem check_ex : manifest_Check.f 30 10 300 [⟨0, 4⟩, ⟨4, 10⟩] = some 0 := by decide +kernel
theorem lit_ex : (⟨#[99, 97, 114, 10, 172, 2, 2, 4, 5]⟩ : ByteArray) ++ ⟨#[119, 180, 150, 77]⟩ = ⟨#[99, 97, 114, 10, 172, 2, 2, 4, 5, 119, 180, 150, 77]⟩ := by
  apply ByteArray.ext
  rw [ByteArray.data_append]
  rfl
theorem does_ex : carousellaw11_does.j0 60 (⟨#[99, 97, 114, 10, 172, 2, 2, 4, 5, 119, 180, 150, 77]⟩ : ByteArray) false 10 300 [⟨0, 4⟩, ⟨4, 10⟩] = some true := by kernel_rfl
theorem head_ex : ((⟨#[99, 97, 114, 10, 172, 2, 2, 4, 5, 119, 180, 150, 77]⟩ : ByteArray).extract 0 ((wrap64 ((13 : Int) - 4)) : Int).toNat).toList = ([99, 97, 114, 10, 172, 2, 2, 4, 5] : List UInt8) := by
  rw [extract_toList]
  decide +kernel
theorem does_at {k : Nat} (hk : 1000 < k) : carousellaw11_does.f k = some true := by
  have hc : manifest_Check.f k 10 300 [⟨0, 4⟩, ⟨4, 10⟩] = some 0 := at_rounds (g := fun k => manifest_Check.f k 10 300 [⟨0, 4⟩, ⟨4, 10⟩]) (fun k => manifest_Check.mono _ _ _ k) (show 30 ≤ k by omega) check_ex
  have hE := (manEncode_at 10 300 [⟨0, 4⟩, ⟨4, 10⟩] k hc (by omega) (by omega) (by decide) (by decide) (by decide) hk).1
  rw [show ([⟨0, 4⟩, ⟨4, 10⟩] : List S50).map (·.f1) = [4, 10] from rfl, body_ex, sum_ex, lit_ex] at hE
  have hE' : manifest_Encode.f k 10 300 [⟨0, 4⟩, ⟨4, 10⟩] = some (⟨#[99, 97, 114, 10, 172, 2, 2, 4, 5, 119, 180, 150, 77]⟩, 0) := hE
  have hj : carousellaw11_does.j0 k (⟨#[99, 97, 114, 10, 172, 2, 2, 4, 5, 119, 180, 150, 77]⟩ : ByteArray) false 10 300 [⟨0, 4⟩, ⟨4, 10⟩] = some true :=
    at_rounds (g := fun k => carousellaw11_does.j0 k (⟨#[99, 97, 114, 10, 172, 2, 2, 4, 5, 119, 180, 150, 77]⟩ : ByteArray) false 10 300 [⟨0, 4⟩, ⟨4, 10⟩]) (fun k => carousellaw11_does.mono_l k _ _ _ _ _) (show 60 ≤ k by omega) does_ex
  unfold carousellaw11_does.f
  rw [Option.bind_some, hE', Option.bind_some]
  dsimp only
  rw [if_pos rfl, show (((⟨#[99, 97, 114, 10, 172, 2, 2, 4, 5, 119, 180, 150, 77]⟩ : ByteArray).size : Nat) : Int) = 13 from rfl, if_neg (by omega), if_pos (by decide +kernel), if_pos (by decide +kernel), head_ex, bne_self_eq_false, hj]
theorem same0 (k : Nat) (hk : 5 < k) : carousellaw11_Same.f k 0 0 [] 0 0 [] = some true := by
  have h : carousellaw11_Same.f 5 0 0 [] 0 0 [] = some true := by kernel_rfl
  exact at_rounds (g := fun k => carousellaw11_Same.f k 0 0 [] 0 0 []) (fun k => carousellaw11_Same.mono _ _ _ _ _ _ k) (show 5 ≤ k by omega) h
/-! ### made, and what Check says of it -/
def madeL : Int → List Int → List S50
  | _, [] => []
  | v, x :: l => ⟨v, v + 1 + x % 16⟩ :: madeL (v + 1 + x % 16) l
def madeV : Int → List Int → Int
  | v, [] => v
  | v, x :: l => madeV (v + 1 + x % 16) l
theorem madeL_len (l : List Int) : ∀ v, (madeL v l).length = l.length := by
  induction l with
  | nil => intro _; rfl
  | cons x l ih => intro v; simp [madeL, ih]
theorem madeV_le (l : List Int) : ∀ v, v + l.length ≤ madeV v l ∧ madeV v l ≤ v + 16 * l.length := by
  induction l with
  | nil => intro v; simp [madeV]
  | cons x l ih =>
    intro v
    have := ih (v + 1 + x % 16)
    simp only [madeV, List.length_cons]
    omega
theorem madeL_betw (l : List Int) : ∀ v, betw v ((madeL v l).map (·.f1)) = madeL v l := by
  induction l with
  | nil => intro _; rfl
  | cons x l ih => intro v; simp [madeL, betw, ih]
theorem madeL_ups (l : List Int) : ∀ (v nx : Int), nx ≤ v + 1 → ups nx ((madeL v l).map (·.f1)) = true := by
  induction l with
  | nil => intro _ _ _; rfl
  | cons x l ih =>
    intro v nx h
    simp only [madeL, List.map_cons]
    rw [ups_cons]
    exact ⟨by omega, ih _ _ (by omega)⟩
theorem madeL_bound (l : List Int) : ∀ (v : Int), 0 ≤ v → ∀ y ∈ (madeL v l).map (·.f1), 0 ≤ y ∧ y ≤ v + 16 * l.length := by
  induction l with
  | nil => intro v _ y hy; simp [madeL] at hy
  | cons x l ih =>
    intro v hv y hy
    simp only [madeL, List.map_cons, List.mem_cons] at hy
    simp only [List.length_cons]
    rcases hy with rfl | hy
    · omega
    · have := ih _ (by omega) y hy
      omega
theorem made_loop (l : List Int) (hn : l.length ≤ 140737488355328) (hl : ∀ x ∈ l, 0 ≤ x ∧ x ≤ 255) (e : Int) : ∀ (d i : Nat) (v : Int) (acc : List S50), i + d = min l.length 16 → acc.length = i → 0 ≤ v → v ≤ 16 * i → ∀ k, d < k →
    carousellaw11_made.l0 k l (i : Int) v e acc = some (madeV v ((l.take 16).drop i), e, acc ++ madeL v ((l.take 16).drop i)) := by
  intro d
  induction d with
  | zero =>
    intro i v acc hi ha hv0 hv1 k hk
    obtain ⟨k, rfl⟩ : ∃ m, k = m + 1 := ⟨k - 1, by omega⟩
    have hdrop : (l.take 16).drop i = [] := List.drop_of_length_le (by rw [List.length_take]; omega)
    simp only [carousellaw11_made.l0]
    rw [hdrop]
    by_cases h : (i : Int) < (l.length : Int)
    · rw [if_pos h, if_neg (by omega)]
      simp [madeV, madeL]
    · rw [if_neg h]
      simp [madeV, madeL]
  | succ d ih =>
    intro i v acc hi ha hv0 hv1 k hk
    obtain ⟨k, rfl⟩ : ∃ m, k = m + 1 := ⟨k - 1, by omega⟩
    have hlt : i < l.length := by omega
    have hr : rd l (i : Int) = l[i] := by simp [rd, List.getD, hlt]
    have hb := hl l[i] (List.getElem_mem hlt)
    have e1 : wrap64 (wrap64 (v + 1) + Int.tmod (wrap64 l[i]) 16) = v + 1 + l[i] % 16 := by
      rw [show wrap64 l[i] = l[i] by unfold wrap64; omega, Int.tmod_eq_emod_of_nonneg hb.1]
      unfold wrap64
      omega
    have hdrop : (l.take 16).drop i = l[i] :: (l.take 16).drop (i + 1) := by
      have h2 : i < (l.take 16).length := by rw [List.length_take]; omega
      rw [List.drop_eq_getElem_cons h2, List.getElem_take]
    simp only [carousellaw11_made.l0]
    rw [if_pos (by omega), if_pos (by omega), if_pos (by omega), if_pos (by omega), hr, e1, show wrap64 ((i : Int) + 1) = ((i + 1 : Nat) : Int) by unfold wrap64; omega,
      ih (i + 1) _ _ (by omega) (by simp; omega) (by omega) (by omega) k (by omega), hdrop]
    simp [madeV, madeL]
theorem made_at (l : List Int) (hn : l.length ≤ 140737488355328) (hl : ∀ x ∈ l, 0 ≤ x ∧ x ≤ 255) (a : Int) (ha : 0 ≤ a ∧ a ≤ 65535) (k : Nat) (hk : 20 < k) :
    carousellaw11_made.f k l a = some (madeV 0 (l.take 16), a % 4097, madeL 0 (l.take 16)) := by
  unfold carousellaw11_made.f
  rw [show wrap64 a = a by unfold wrap64; omega, Int.tmod_eq_emod_of_nonneg ha.1]
  have := made_loop l hn hl (a % 4097) (min l.length 16) 0 0 [] (by omega) rfl (by omega) (by omega) k (by omega)
  simpa using this
theorem parts_made (p : List Int) : ∀ (q : List S50) (w : Int), (q ++ madeL w p).length ≤ 1000000 → ∀ k, p.length < k →
    parts_Check.l0 k (madeV w p) w (q ++ madeL w p) ((q ++ madeL w p).length : Int) (q.length : Int) = some 0 := by
  induction p with
  | nil =>
    intro q w hn k hk
    obtain ⟨k, rfl⟩ : ∃ m, k = m + 1 := ⟨k - 1, by omega⟩
    simp only [parts_Check.l0, madeL, madeV, List.append_nil]
    rw [if_neg (by omega)]
    simp
  | cons x p ih =>
    intro q w hn k hk
    obtain ⟨k, rfl⟩ : ∃ m, k = m + 1 := ⟨k - 1, by omega⟩
    have hlen : (q ++ madeL w (x :: p)).length = q.length + 1 + p.length := by rw [List.length_append, madeL_len, List.length_cons]; omega
    have hr : rd_T50 (q ++ madeL w (x :: p)) (q.length : Int) = ⟨w, w + 1 + x % 16⟩ := by simp [rd_T50, List.getD, madeL]
    have h := ih (q ++ [⟨w, w + 1 + x % 16⟩]) (w + 1 + x % 16) (by simpa [madeL] using hn) k (by simp at hk; omega)
    simp only [parts_Check.l0]
    rw [if_pos (by omega), if_pos (by omega), if_pos (by omega), hr, if_pos rfl, if_neg (by show ¬ w + 1 + x % 16 ≤ w; omega), show wrap64 ((q.length : Int) + 1) = ((q.length + 1 : Nat) : Int) by unfold wrap64; omega]
    have e : (q ++ [⟨w, w + 1 + x % 16⟩]) ++ madeL (w + 1 + x % 16) p = q ++ madeL w (x :: p) := by simp [madeL]
    rw [e, show (q ++ [(⟨w, w + 1 + x % 16⟩ : S50)]).length = q.length + 1 by simp] at h
    exact h
theorem check_made (p : List Int) (e : Int) (he : 0 ≤ e ∧ e ≤ 4096) (hp : p.length ≤ 16) (hp0 : p ≠ []) (k : Nat) (hk : 40 < k) : manifest_Check.f k (madeV 0 p) e (madeL 0 p) = some 0 := by
  obtain ⟨k, rfl⟩ : ∃ m, k = m + 1 := ⟨k - 1, by omega⟩
  have hv := madeV_le p 0
  have hpos : 1 ≤ p.length := List.length_pos_iff.mpr hp0
  have hl : (madeL 0 p).length = p.length := madeL_len p 0
  unfold manifest_Check.f parts_Check.f
  rw [if_neg (by omega), if_neg (by omega), if_neg (by omega), if_neg (by omega), decide_eq_false (by omega)]
  simp only [parts_Check.j0, Bool.false_eq_true, if_false]
  have h : parts_Check.l0 k (madeV 0 p) 0 (madeL 0 p) ((madeL 0 p).length : Int) 0 = some 0 := parts_made p [] 0 (by simp only [List.nil_append]; omega) k (by omega)
  rw [h]
  rfl
theorem check_none (e : Int) (k : Nat) (he : 0 ≤ e ∧ e ≤ 4096) (hk : 3 < k) : manifest_Check.f k 0 e [] = some 2 := by
  obtain ⟨k, rfl⟩ : ∃ m, k = m + 1 := ⟨k - 1, by omega⟩
  unfold manifest_Check.f parts_Check.f
  rw [if_neg (by omega), if_neg (by omega), if_pos (by omega)]
  simp only [parts_Check.j0, if_true]
  rfl
/-! ### what was encoded is decoded -/
theorem manDecode_yes (v e : Nat) (l : List Int) (hb : (bodyB v e l).size ≤ 2000) (hv : v ≤ 256) (he : e ≤ 4096) (hu : ups 0 l = true) (hs : Small l) (k : Nat) (hk : 10000 < k) (hchk : manifest_Check.f k v e (betw 0 l) = some 0) :
    manifest_Decode.f k (bodyB v e l ++ sumB (bodyB v e l)) = some ((v : Int), (e : Int), betw 0 l, 0) := by
  obtain ⟨hsum, hs4⟩ := sum_at (bodyB v e l) (by omega) k (by omega)
  have hbl : (bodyB v e l).size = 3 + ((enc v).length + ((enc e).length + (listEnc l).length)) := by
    unfold bodyB bodyL
    rw [list_size, List.length_append, List.length_append, List.length_append]
    rfl
  have hsz : (bodyB v e l ++ sumB (bodyB v e l)).size = (bodyB v e l).size + 4 := by rw [ByteArray.size_append, hs4]
  have hd : (bodyB v e l ++ sumB (bodyB v e l)).data.toList = bodyL v e l ++ (sumB (bodyB v e l)).data.toList := by
    rw [ByteArray.data_append, Array.toList_append]
    rfl
  have hbd : (bodyL v e l).length = (bodyB v e l).size := (list_size _).symm
  have hll : l.length ≤ 2000 := by have := body_len l 0; have : (listEnc l).length = (enc l.length).length + (body 0 l).length := by rw [listEnc, List.length_append]
                                   omega
  have hex : (bodyB v e l ++ sumB (bodyB v e l)).extract 0 (bodyB v e l).size = bodyB v e l := by
    apply ByteArray.ext
    apply Array.toList_inj.1
    rw [ByteArray.data_extract, Array.toList_extract, List.extract_eq_take_drop, List.drop_zero, Nat.sub_zero, hd, ← hbd, List.take_left]
    rfl
  have s1 : StandsAt (bodyB v e l) 3 v (enc e ++ listEnc l) := ⟨by omega, by omega, by omega, by
    show (bodyL v e l).drop 3 = _
    rw [bodyL]; rfl⟩
  have g1 := getR_yes s1 (by omega)
  have n1 := s1.len
  have s2 : StandsAt (bodyB v e l) (3 + (enc v).length : Int) e (listEnc l) := ⟨by omega, by omega, by omega, by
    show (bodyL v e l).drop _ = _
    rw [bodyL, show (3 + (enc v).length : Int).toNat = ([99, 97, 114] : List UInt8).length + (enc v).length by show _ = 3 + _; omega, ← List.append_assoc, ← List.length_append, List.drop_left]⟩
  have g2 := getR_yes s2 (by omega)
  have n2 := s2.len
  have s3 : ListAt (bodyB v e l) (3 + (enc v).length + (enc e).length : Int) l [] := ⟨by omega, by omega, hu, hs, by
    show (bodyL v e l).drop _ = _
    rw [bodyL, show (3 + (enc v).length + (enc e).length : Int).toNat = ([99, 97, 114] : List UInt8).length + ((enc v).length + (enc e).length) by show _ = 3 + _; omega, List.append_nil]
    rw [← List.append_assoc (enc v), ← List.append_assoc, ← List.length_append, ← List.length_append, List.drop_left]⟩
  have g3 := decR_yes s3
  unfold manifest_Decode.f manifest_sealed.f
  rw [hsz, show wrap64 (((bodyB v e l).size + 4 : Nat) - 4 : Int) = ((bodyB v e l).size : Int) by unfold wrap64; omega, if_pos (by omega), if_pos (by omega), if_pos (by omega), if_pos (by
      rw [extract_toList, hd, List.drop_zero]
      show ((bodyL v e l) ++ _).take 3 = _
      rw [bodyL]; rfl), if_pos (by omega), if_pos (by omega), Int.toNat_natCast, hex, hsum, Option.bind_some, Option.bind_some]
  rw [if_pos (by
      rw [extract_toList, hd, Lib.toList_data, ← hbd, List.drop_left, beq_iff_eq]
      exact List.take_of_length_le (by rw [data_length, hs4]; omega)), if_pos (by omega), if_pos (by omega), Get_at _ (by omega) 3 k (by omega), g1, Option.bind_some]
  dsimp only
  rw [n1, Get_at _ (by omega) _ k (by omega), g2, Option.bind_some]
  dsimp only
  rw [n2, Decode_at _ (by omega) _ k (by omega), g3, Option.bind_some]
  dsimp only
  rw [between_at l (by omega) k (by omega), Option.bind_some, if_pos rfl, if_pos rfl, if_pos rfl, if_pos (by simp), hchk, Option.bind_some, if_pos rfl]
theorem S50_ext {a b : S50} (h0 : a.f0 = b.f0) (h1 : a.f1 = b.f1) : a = b := by cases a; cases b; simp only at h0 h1; rw [h0, h1]
open Classical in
theorem same9_loop (l m : List S50) (hl : l.length = m.length) (hn : l.length ≤ 1000000) : ∀ (d j : Nat), j + d = l.length → ∀ k, d < k → carousellaw09_Same.l0 k l m (j : Int) = some (decide (l.drop j = m.drop j)) := by
  intro d
  induction d with
  | zero =>
    intro j hj k hk
    obtain ⟨k, rfl⟩ : ∃ m, k = m + 1 := ⟨k - 1, by omega⟩
    simp only [carousellaw09_Same.l0]
    rw [if_neg (by omega), List.drop_of_length_le (by omega), List.drop_of_length_le (by omega), decide_eq_true rfl]
  | succ d ih =>
    intro j hj k hk
    obtain ⟨k, rfl⟩ : ∃ m, k = m + 1 := ⟨k - 1, by omega⟩
    have hlt : j < l.length := by omega
    have hlt' : j < m.length := by omega
    have hr : rd_T50 l (j : Int) = l[j] := by simp [rd_T50, List.getD, hlt]
    have hr' : rd_T50 m (j : Int) = m[j] := by simp [rd_T50, List.getD, hlt']
    simp only [carousellaw09_Same.l0]
    rw [if_pos (by omega), if_pos (by omega), if_pos (by omega), hr, hr', List.drop_eq_getElem_cons hlt, List.drop_eq_getElem_cons hlt']
    by_cases h : l[j] = m[j]
    · rw [if_neg (by rw [h]; simp), show wrap64 ((j : Int) + 1) = ((j + 1 : Nat) : Int) by unfold wrap64; omega, ih (j + 1) (by omega) k (by omega)]
      congr 1
      exact decide_eq_decide.2 (by rw [List.cons.injEq]; exact ⟨fun x => ⟨h, x⟩, fun x => x.2⟩)
    · rw [if_pos ?_, decide_eq_false (by rw [List.cons.injEq]; exact fun x => h x.1)]
      by_cases h0 : l[j].f0 = m[j].f0
      · have h1 : ¬ l[j].f1 = m[j].f1 := fun e => h (S50_ext h0 e)
        simp [h0, h1]
      · simp [h0]
open Classical in
theorem same9_at (l m : List S50) (hn : l.length ≤ 1000000) (k : Nat) (hk : l.length < k) : carousellaw09_Same.f k l m = some (decide (l = m)) := by
  unfold carousellaw09_Same.f
  by_cases h : l.length = m.length
  · rw [if_pos (by omega)]
    have := same9_loop l m h hn l.length 0 (by omega) k hk
    simpa using this
  · rw [if_neg (by omega), decide_eq_false (fun e => h (by rw [e]))]
open Classical in
theorem same11_at (v e : Int) (l : List S50) (v' e' : Int) (m : List S50) (hn : l.length ≤ 1000000) (k : Nat) (hk : l.length < k) : carousellaw11_Same.f k v e l v' e' m = some (decide (v = v' ∧ e = e' ∧ l = m)) := by
  unfold carousellaw11_Same.f
  by_cases h1 : v = v'
  · by_cases h2 : e = e'
    · rw [if_pos h1, if_pos h2, same9_at l m hn k hk, Option.bind_some]
      congr 1
      exact decide_eq_decide.2 ⟨fun h => ⟨h1, h2, h⟩, fun h => h.2.2⟩
    · rw [if_pos h1, if_neg h2, decide_eq_false (fun h => h2 h.2.1)]
  · rw [if_neg h1, decide_eq_false (fun h => h1 h.1)]
theorem same11_self (v e : Int) (l : List S50) (hn : l.length ≤ 1000000) (k : Nat) (hk : l.length < k) : carousellaw11_Same.f k v e l v e l = some true := by
  classical
  rw [same11_at v e l v e l hn k hk, decide_eq_true ⟨rfl, rfl, rfl⟩]
/-- What Encode tells of a graph that was made. -/
theorem enc_made (l : List Int) (hl : ∀ x ∈ l, 0 ≤ x ∧ x ≤ 255) (e : Nat) (he : e ≤ 4096) (k : Nat) (hk : 20000 < k) (hne : l ≠ []) :
    ∃ (v : Nat), madeV 0 (l.take 16) = v ∧ v ≤ 256 ∧ ups 0 ((madeL 0 (l.take 16)).map (·.f1)) = true ∧ Small ((madeL 0 (l.take 16)).map (·.f1)) ∧ ((madeL 0 (l.take 16)).map (·.f1)).length ≤ 16 ∧ (bodyB v e ((madeL 0 (l.take 16)).map (·.f1))).size ≤ 300 ∧
      manifest_Encode.f k (madeV 0 (l.take 16)) e (madeL 0 (l.take 16)) = some (bodyB v e ((madeL 0 (l.take 16)).map (·.f1)) ++ sumB (bodyB v e ((madeL 0 (l.take 16)).map (·.f1))), 0) ∧
      manifest_Decode.f k (bodyB v e ((madeL 0 (l.take 16)).map (·.f1)) ++ sumB (bodyB v e ((madeL 0 (l.take 16)).map (·.f1)))) = some (madeV 0 (l.take 16), (e : Int), madeL 0 (l.take 16), 0) := by
  have hlen : (l.take 16).length ≤ 16 := by rw [List.length_take]; omega
  have hne' : l.take 16 ≠ [] := by
    cases l with
    | nil => exact absurd rfl hne
    | cons x l => simp
  have hv := madeV_le (l.take 16) 0
  have hpos : 1 ≤ (l.take 16).length := List.length_pos_iff.mpr hne'
  obtain ⟨v, hv'⟩ : ∃ v : Nat, madeV 0 (l.take 16) = v := ⟨(madeV 0 (l.take 16)).toNat, by omega⟩
  have hchk := check_made (l.take 16) e (by omega) hlen hne' k (by omega)
  have hu := madeL_ups (l.take 16) 0 0 (by omega)
  have hbd := madeL_bound (l.take 16) 0 (by omega)
  have hb64 : ∀ x ∈ (madeL 0 (l.take 16)).map (·.f1), -9223372036854775808 ≤ x ∧ x ≤ 9223372036854775807 := fun x hx => by have := hbd x hx; omega
  have hbt : betw 0 ((madeL 0 (l.take 16)).map (·.f1)) = madeL 0 (l.take 16) := madeL_betw _ 0
  have hml : (madeL 0 (l.take 16)).length = (l.take 16).length := madeL_len _ 0
  rw [hv'] at hchk
  obtain ⟨hE, hsz⟩ := manEncode_at v e (madeL 0 (l.take 16)) k hchk (by omega) he (by omega) hu hb64 (by omega)
  have hD := manDecode_yes v e ((madeL 0 (l.take 16)).map (·.f1)) (by omega) (by omega) he hu (fun x hx => (hb64 x hx).2) k (by omega) (by rw [hbt]; exact hchk)
  rw [hbt] at hD
  exact ⟨v, hv', by omega, hu, fun x hx => (hb64 x hx).2, by rw [List.length_map]; omega, hsz, by rw [hv']; exact hE, by rw [hv']; exact hD⟩
theorem body_same {v e v' e' : Nat} {l l' : List Int} (hu : ups 0 l = true) (hu' : ups 0 l' = true) (hs : (bodyB v e l).size ≤ 300) (hs' : (bodyB v' e' l').size ≤ 300)
    (h : (bodyB v e l ++ sumB (bodyB v e l)).toList = (bodyB v' e' l' ++ sumB (bodyB v' e' l')).toList) : v = v' ∧ e = e' ∧ l = l' := by
  obtain ⟨_, h4⟩ := sum_at (bodyB v e l) (by omega) 100000 (by omega)
  obtain ⟨_, h4'⟩ := sum_at (bodyB v' e' l') (by omega) 100000 (by omega)
  rw [Lib.toList_data, Lib.toList_data, ByteArray.data_append, ByteArray.data_append, Array.toList_append, Array.toList_append] at h
  have hl := (List.append_inj' h (by rw [data_length, data_length, h4, h4'])).1
  have hl' : bodyL v e l = bodyL v' e' l' := hl
  unfold bodyL at hl'
  have h1 := (List.append_inj hl' rfl).2
  obtain ⟨e1, h2⟩ := enc_free _ _ _ _ h1
  obtain ⟨e2, h3⟩ := enc_free _ _ _ _ h2
  obtain ⟨e3, _⟩ := listEnc_free (r := []) (q := []) hu hu' (by simpa using h3)
  exact ⟨e1, e2, e3⟩
theorem enc_none (e : Int) (he : 0 ≤ e ∧ e ≤ 4096) (k : Nat) (hk : 100 < k) : manifest_Encode.f k 0 e [] = some (⟨#[]⟩, 2) := by
  unfold manifest_Encode.f
  rw [check_none e k he (by omega), Option.bind_some, if_neg (by omega)]
theorem nil_toList : (⟨#[]⟩ : ByteArray).toList = ([] : List UInt8) := by rw [Lib.toList_data]
theorem ManifestBack (l m : List Int) (a b : Int) (hln : l.length ≤ 140737488355328) (hmn : m.length ≤ 140737488355328) (hl : ∀ x ∈ l, 0 ≤ x ∧ x ≤ 255) (hm : ∀ x ∈ m, 0 ≤ x ∧ x ≤ 255) (ha : 0 ≤ a ∧ a ≤ 65535) (hb : 0 ≤ b ∧ b ≤ 65535) : ∃ k, carousellaw11_ManifestBack.f k l m a b = some true := by
  classical
  obtain ⟨K, hK⟩ : ∃ K : Nat, 20000 < K := ⟨20001, by omega⟩
  refine ⟨K + 1 + 1, ?_⟩
  obtain ⟨ea, hea⟩ : ∃ ea : Nat, a % 4097 = ea := ⟨(a % 4097).toNat, by omega⟩
  obtain ⟨eb, heb⟩ : ∃ eb : Nat, b % 4097 = eb := ⟨(b % 4097).toNat, by omega⟩
  unfold carousellaw11_ManifestBack.f
  rw [made_at l hln hl a ha _ (by omega), Option.bind_some, made_at m hmn hm b hb _ (by omega), Option.bind_some]
  dsimp only
  rw [hea, heb]
  by_cases h1 : l = []
  · subst h1
    have e1 : manifest_Encode.f (K + 1 + 1) (madeV 0 (([] : List Int).take 16)) ea (madeL 0 (([] : List Int).take 16)) = some (⟨#[]⟩, 2) := enc_none ea (by omega) _ (by omega)
    rw [e1, Option.bind_some]
    by_cases h2 : m = []
    · subst h2
      have e2 : manifest_Encode.f (K + 1 + 1) (madeV 0 (([] : List Int).take 16)) eb (madeL 0 (([] : List Int).take 16)) = some (⟨#[]⟩, 2) := enc_none eb (by omega) _ (by omega)
      rw [e2, Option.bind_some]
      dsimp only
      rw [if_neg (by decide), show (((2 : Int) == 0) != decide ((([] : List Int).length : Int) > 0)) = false by decide]
      simp only [carousellaw11_ManifestBack.j0, Bool.false_eq_true, if_false]
      rw [if_neg (by omega)]
      simp only [carousellaw11_ManifestBack.j1, if_true]
      rw [if_neg (by omega), if_pos nil_toList, if_neg (by omega), if_pos nil_toList, does_at (by omega)]
      rfl
    · obtain ⟨v, _, _, _, _, _, _, hE, _⟩ := enc_made m hm eb (by omega) (K + 1 + 1) (by omega) h2
      rw [hE, Option.bind_some]
      dsimp only
      have hp : 0 < m.length := List.length_pos_iff.mpr h2
      rw [if_neg (by decide), show (((0 : Int) == 0) != decide ((m.length : Int) > 0)) = false by rw [decide_eq_true (by omega)]; decide]
      simp only [carousellaw11_ManifestBack.j0, Bool.false_eq_true, if_false]
      rw [if_neg (by omega)]
      simp only [carousellaw11_ManifestBack.j1, if_true]
      rw [if_neg (by omega), if_pos nil_toList, does_at (by omega)]
      rfl
  · obtain ⟨v, hv1, hv2, hv3, hv4, hv5, hv6, hE, hD⟩ := enc_made l hl ea (by omega) (K + 1 + 1) (by omega) h1
    rw [hE, Option.bind_some]
    have hp1 : 0 < l.length := List.length_pos_iff.mpr h1
    have hc1 : ((((0 : Int) == 0) != decide ((l.length : Int) > 0)) = true) ↔ False := by rw [decide_eq_true (by omega)]; decide
    by_cases h2 : m = []
    · subst h2
      have e2 : manifest_Encode.f (K + 1 + 1) (madeV 0 (([] : List Int).take 16)) eb (madeL 0 (([] : List Int).take 16)) = some (⟨#[]⟩, 2) := enc_none eb (by omega) _ (by omega)
      rw [e2, Option.bind_some]
      dsimp only
      rw [if_neg hc1.1, show (((2 : Int) == 0) != decide ((([] : List Int).length : Int) > 0)) = false by decide]
      simp only [carousellaw11_ManifestBack.j0, Bool.false_eq_true, if_false]
      rw [if_pos trivial, show ((2 : Int) != 0) = true by decide]
      simp only [carousellaw11_ManifestBack.j1, if_true]
      rw [if_neg (by omega), if_pos nil_toList, does_at (by omega)]
      rfl
    · obtain ⟨u, hu1, hu2, hu3, hu4, hu5, hu6, hE', hD'⟩ := enc_made m hm eb (by omega) (K + 1 + 1) (by omega) h2
      obtain ⟨w, hw1, _, _, _, _, _, _, hD0⟩ := enc_made l hl ea (by omega) K (by omega) h1
      obtain ⟨z, hz1, _, _, _, _, _, _, hD0'⟩ := enc_made m hm eb (by omega) K (by omega) h2
      have ew : w = v := by omega
      have ez : z = u := by omega
      subst ew
      subst ez
      rw [hE', Option.bind_some]
      dsimp only
      have hp2 : 0 < m.length := List.length_pos_iff.mpr h2
      have hml : (madeL 0 (l.take 16)).length ≤ 16 := by rw [madeL_len, List.length_take]; omega
      have hmm : (madeL 0 (m.take 16)).length ≤ 16 := by rw [madeL_len, List.length_take]; omega
      have hc2 : (((0 : Int) == 0) != decide ((m.length : Int) > 0)) = false := by rw [decide_eq_true (by omega)]; decide
      rw [if_neg hc1.1, hc2]
      simp only [carousellaw11_ManifestBack.j0, Bool.false_eq_true, if_false]
      rw [if_pos trivial, show ((0 : Int) != 0) = false by decide]
      simp only [carousellaw11_ManifestBack.j1, Bool.false_eq_true, if_false]
      rw [hD0, Option.bind_some, hD0', Option.bind_some]
      dsimp only
      rw [if_pos rfl, if_pos rfl, same11_self _ _ _ (by omega) K (by omega), Option.bind_some, if_pos rfl, same11_self _ _ _ (by omega) K (by omega), Option.bind_some, if_pos rfl,
        same11_at _ _ _ _ _ _ (by omega) K (by omega), Option.bind_some, if_pos ?_, does_at (by omega)]
      · rfl
      · rw [beq_iff_eq, Bool.eq_iff_iff, beq_iff_eq, decide_eq_true_iff]
        constructor
        · intro h
          obtain ⟨e1, e2, e3⟩ := body_same hv3 hu3 hv6 hu6 h
          refine ⟨by omega, by omega, ?_⟩
          rw [← madeL_betw (l.take 16) 0, ← madeL_betw (m.take 16) 0, e3]
        · rintro ⟨e1, e2, e3⟩
          have e1' : w = z := by omega
          have e2' : ea = eb := by omega
          rw [e1', e2', e3]
end Go.Proofs.Ytnbdplhbkennfaa.Pure
