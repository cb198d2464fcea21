/- Whether any graph may be, its bytes, and the graph that any bytes say, are the document's. No condition. -/
import Derived.Test.YtnbdplhbkennfaaQManifestTellx12
import Derived.Test.YtnbdplhbkennfaaMa
import Derived.Test.YtnbdplhbkennfaaEncode
import Derived.Test.YtnbdplhbkennfaaMb
namespace Go.Proofs.Ytnbdplhbkennfaa.Pure
open Go.RowKit Go.Proofs.Ytnbdplhbkennfaa.QManifestTell Go.Proofs.YtnbdplhbkennfaaW.PrintWords Go.Proofs.YtnbdplhbkennfaaW.PrintLast Go.Proofs.YtnbdplhbkennfaaW.PrintMore Go.Proofs.Ytnbdplhbkennfaa.Ma Go.Proofs.Ytnbdplhbkennfaa.Enc Go.Proofs.Ytnbdplhbkennfaa.Mb
set_option linter.unusedVariables false
set_option linter.unusedSimpArgs false
theorem get_loop (s : ByteArray) (hs : s.size ≤ 140737488351232) (at' : Nat) : ∀ (d i acc : Nat), i + d = 10 → acc < 128 ^ i → at' + i ≤ s.size →
  ∀ k, 2 * d + 1 < k → ∃ res, ints_get.l0 k s (at' : Int) (acc : Int) (mn ((s.size : Int) - at') 10) (i : Int) = some res ∧
   (∀ v r, (i = 0 ∨ 0 < v) → acc + v * 128 ^ i < 18446744073709551616 → s.data.toList.drop (at' + i) = enc v ++ r → res = (((acc + v * 128 ^ i : Nat) : Int), (s.size : Int) - r.length, true)) ∧
   (res.2.2 = true → ∃ v r, (i = 0 ∨ 0 < v) ∧ acc + v * 128 ^ i < 18446744073709551616 ∧ s.data.toList.drop (at' + i) = enc v ++ r) := by
 intro d
 induction d with
 | zero =>
  intro i acc hi ha hat k hk
  obtain ⟨k, rfl⟩ : ∃ m, k = m + 1 := ⟨k - 1, by omega⟩
  obtain rfl : i = 10 := by omega
  simp only [ints_get.l0]
  rw [if_neg (by unfold mn; split <;> omega)]
  refine ⟨_, rfl, ?_, fun h => by simp at h⟩
  intro v r hv hlt _
  have := p128
  omega
 | succ d ih =>
  intro i acc hi ha hat k hk
  obtain ⟨k, rfl⟩ : ∃ m, k = m + 1 := ⟨k - 1, by omega⟩
  simp only [ints_get.l0]
  by_cases hend : at' + i < s.size
  ·have hw : wrap64 ((at' : Int) + i) = ((at' + i : Nat) : Int) := by unfold wrap64; omega
   obtain ⟨c, hc, hcb, hdrop⟩ := byte_at s (at' + i) hend
   rw [if_pos (by unfold mn; split <;> omega), hw, if_pos (by omega), if_pos (by omega), hcb]
   obtain ⟨k, rfl⟩ : ∃ m, k = m + 1 := ⟨k - 1, by omega⟩
   have step : ∀ b : Bool, (b = true ↔ i = 9 ∧ 1 < c) → ∃ res, ints_get.j2 (k + 1) s (at' : Int) (acc : Int) (i : Int) (c : Int) (mn ((s.size : Int) - at') 10) (i : Int) b = some res ∧
     (∀ v r, (i = 0 ∨ 0 < v) → acc + v * 128 ^ i < 18446744073709551616 → s.data.toList.drop (at' + i) = enc v ++ r → res = (((acc + v * 128 ^ i : Nat) : Int), (s.size : Int) - r.length, true)) ∧
     (res.2.2 = true → ∃ v r, (i = 0 ∨ 0 < v) ∧ acc + v * 128 ^ i < 18446744073709551616 ∧ s.data.toList.drop (at' + i) = enc v ++ r) := by
    intro b hb
    simp only [ints_get.j2]
    rw [show wrap64 (7 * (i : Int)) = ((7 * i : Nat) : Int) by unfold wrap64; omega, and_127 _ (by omega) (by omega), wrap_u64, show (c : Int) % 128 % 18446744073709551616 = ((c % 128 : Nat) : Int) by omega]
    cases b with
    | true =>
     rw [if_pos rfl]
     refine ⟨_, rfl, ?_, fun h => by simp at h⟩
     obtain ⟨rfl, hc1⟩ := hb.1 rfl
     intro v r hv hlt hd
     exfalso
     rw [hdrop] at hd
     have hp := p128'
     by_cases hv' : v < 128
     ·rw [enc_small hv'] at hd
      simp only [List.cons_append, List.nil_append, List.cons.injEq] at hd
      have := u8_inj hc (by omega) hd.1
      have : 2 * 128 ^ 9 ≤ v * 128 ^ 9 := Nat.mul_le_mul_right _ (by omega)
      omega
     ·have : 128 * 128 ^ 9 ≤ v * 128 ^ 9 := Nat.mul_le_mul_right _ (by omega)
      omega
    | false =>
     rw [if_neg (by simp), if_pos (by omega)]
     have hnb : ¬ (i = 9 ∧ 1 < c) := fun h => by have := hb.2 h; cases this
     have hfit : acc + (c % 128) * 128 ^ i < 18446744073709551616 := fits ha (by omega) (by omega) hnb
     rw [lay acc (c % 128) i (by omega) ha hfit, hw, show wrap64 (((at' + i : Nat) : Int) + 1) = ((at' + i + 1 : Nat) : Int) by unfold wrap64; omega]
     by_cases hlow : c < 128
     ·rw [if_pos (by omega)]
      rw [Nat.mod_eq_of_lt hlow] at *
      have hgood : (0 < c ∨ i = 0) → ∀ v r, (i = 0 ∨ 0 < v) → acc + v * 128 ^ i < 18446744073709551616 → s.data.toList.drop (at' + i) = enc v ++ r →
        ((((acc + c * 128 ^ i : Nat) : Int), ((at' + i + 1 : Nat) : Int), true) : Int × Int × Bool) = (((acc + v * 128 ^ i : Nat) : Int), (s.size : Int) - r.length, true) := by
       intro _ v r hv hlt hd
       rw [hdrop, ← List.singleton_append, ← enc_small hlow] at hd
       obtain ⟨rfl, rfl⟩ := enc_free _ _ _ _ hd
       rw [List.length_drop, data_length]
       congr 2
       omega
      by_cases hc0 : (c : Int) > 0
      ·rw [if_pos hc0]
       refine ⟨_, rfl, hgood (.inl (by omega)), fun _ => ⟨c, s.data.toList.drop (at' + i + 1), .inr (by omega), hfit, ?_⟩⟩
       rw [hdrop, enc_small hlow]
       rfl
      ·rw [if_neg hc0]
       refine ⟨_, rfl, ?_, ?_⟩
       ·intro v r hv hlt hd
        have hd' := hd
        rw [hdrop, ← List.singleton_append, ← enc_small hlow] at hd'
        obtain ⟨rfl, rfl⟩ := enc_free _ _ _ _ hd'
        obtain rfl : i = 0 := by omega
        exact hgood (.inr rfl) _ _ (.inl rfl) hlt hd
       ·intro hi0
        have hi0 : i = 0 := by simpa using hi0
        refine ⟨c, s.data.toList.drop (at' + i + 1), .inl hi0, hfit, ?_⟩
        rw [hdrop, enc_small hlow]
        rfl
     ·rw [if_neg (by omega), show wrap64 ((i : Int) + 1) = ((i + 1 : Nat) : Int) by unfold wrap64; omega]
      have hi9 : i ≠ 9 := fun h => hnb ⟨h, by omega⟩
      obtain ⟨res, hr, h1, h2⟩ := ih (i + 1) (acc + c % 128 * 128 ^ i) (by omega) (by rw [Nat.pow_succ]; exact grows ha (by omega)) (by omega) k (by omega)
      refine ⟨res, hr, ?_, ?_⟩
      ·intro v r hv hlt hd
       rw [hdrop] at hd
       by_cases hv' : v < 128
       ·rw [enc_small hv'] at hd
        simp only [List.cons_append, List.nil_append, List.cons.injEq] at hd
        have := u8_inj hc (by omega) hd.1
        omega
       ·rw [enc_big (by omega)] at hd
        simp only [List.cons_append, List.cons.injEq] at hd
        have e := u8_inj hc (by omega) hd.1
        have e2 : acc + c % 128 * 128 ^ i + v / 128 * 128 ^ (i + 1) = acc + v * 128 ^ i := parts_of (by omega)
        rw [← e2]
        exact h1 (v / 128) r (.inr (by omega)) (by omega) hd.2
      ·intro ht
       obtain ⟨v, r, hv, hlt, hd⟩ := h2 ht
       have e2 : acc + c % 128 * 128 ^ i + v * 128 ^ (i + 1) = acc + (v * 128 + c % 128) * 128 ^ i := by rw [Nat.pow_succ, Nat.add_mul, Nat.mul_assoc, Nat.mul_comm (128 ^ i) 128]; omega
       refine ⟨v * 128 + c % 128, r, .inr (by omega), by omega, ?_⟩
       rw [hdrop, enc_big (by omega), show (v * 128 + c % 128) % 128 + 128 = c by omega, show (v * 128 + c % 128) / 128 = v by omega]
       rw [show at' + (i + 1) = at' + i + 1 by omega] at hd
       rw [hd]
       rfl
   by_cases h9 : (i : Int) = 9
   ·rw [if_pos h9]
    refine step _ ?_
    simp only [decide_eq_true_eq]
    omega
   ·rw [if_neg h9]
    refine step _ ?_
    simp only [Bool.false_eq_true, false_iff]
    omega
  ·rw [if_neg (by unfold mn; split <;> omega)]
   refine ⟨_, rfl, ?_, fun h => by simp at h⟩
   intro v r hv hlt hd
   exfalso
   have := congrArg List.length hd
   rw [List.length_drop, data_length, List.length_append] at this
   have := enc_pos v
   omega
theorem get_at (s : ByteArray) (hs : s.size ≤ 140737488351232) (a : Int) (k : Nat) (hk : 23 < k) : ∃ res, ints_get.f k s a = some res ∧
  (∀ u r, StandsAt s a u r → res = ((u : Int), (s.size : Int) - r.length, true)) ∧ (res.2.2 = true → ∃ u r, StandsAt s a u r) := by
 unfold ints_get.f
 obtain ⟨k, rfl⟩ : ∃ m, k = m + 1 := ⟨k - 1, by omega⟩
 by_cases h0 : a < 0
 ·rw [if_pos h0]
  simp only [ints_get.j0, if_true]
  exact ⟨_, rfl, fun u r h => by have := h.1; omega, fun h => by simp at h⟩
 ·rw [if_neg h0]
  by_cases h1 : a > (s.size : Int)
  ·simp only [ints_get.j0, decide_eq_true h1, if_true]
   exact ⟨_, rfl, fun u r h => by have := h.2.1; omega, fun h => by simp at h⟩
  ·simp only [ints_get.j0, decide_eq_false h1, Bool.false_eq_true, if_false]
   obtain ⟨n, rfl⟩ := Int.eq_ofNat_of_zero_le (show 0 ≤ a by omega)
   rw [show wrap64 ((s.size : Int) - n) = (s.size : Int) - n by unfold wrap64; omega]
   obtain ⟨res, hr, g1, g2⟩ := get_loop s hs n 10 0 0 (by omega) (by omega) (by omega) k (by omega)
   refine ⟨res, hr, ?_, ?_⟩
   ·intro u r h
    have := g1 u r (.inl rfl) (by have := h.2.2.1; omega) (by have := h.2.2.2; simpa using this)
    simpa using this
   ·intro h
    obtain ⟨v, r, _, hlt, hd⟩ := g2 h
    exact ⟨v, r, by omega, by omega, by omega, by simpa using hd⟩
theorem Get_at (s : ByteArray) (hs : s.size ≤ 140737488351232) (a : Int) (k : Nat) (hk : 23 < k) : ints_Get.f k s a = some (getR s a) := by
 obtain ⟨⟨x, y, b⟩, hr, g1, g2⟩ := get_at s hs a k hk
 unfold ints_Get.f
 rw [hr]
 simp only [Option.bind_some]
 by_cases h : ∃ u r, StandsAt s a u r
 ·obtain ⟨u, r, h⟩ := h
  have e := g1 u r h
  simp only [Prod.mk.injEq] at e
  obtain ⟨rfl, rfl, rfl⟩ := e
  rw [if_pos rfl]
  by_cases hm : u ≤ 9223372036854775807
  ·rw [if_neg (by omega), getR_yes h hm, show wrap64 (u : Int) = u by unfold wrap64; omega]
  ·rw [if_pos (by omega), getR_big h (by omega)]
 ·have e : b = false := by
   cases b with
   | false => rfl
   | true => exact absurd (g2 rfl) h
  subst e
  rw [if_neg (by simp), getR_no h]
/-! ### gaps.Encode and Check -/
theorem gapAt_of (l : List Int) (hs : Small l) (hu : ups 0 l = true) (j : Nat) (hj : j < l.length) : gapAt l j = l[j]?.getD 0 - nextI l j ∧ 0 ≤ gapAt l j ∧ gapAt l j ≤ 9223372036854775807 ∧ 0 ≤ nextI l j := by
 obtain ⟨h1, h2, h3, h4⟩ := ups_drop l hs l.length 0 (by omega) (by simp [nextI]) (by simpa [nextI] using hu) j (by omega) hj
 have e : gapAt l j = l[j]?.getD 0 - nextI l j := by
  unfold gapAt
  rw [h1]
  unfold wrap64
  omega
 exact ⟨e, by omega, by omega, h2⟩
theorem gapsOk_of (l : List Int) (hs : Small l) (hu : ups 0 l = true) : gapsOk l = true := by
 unfold gapsOk
 rw [List.all_eq_true]
 intro j hj
 obtain ⟨_, h2, h3, _⟩ := gapAt_of l hs hu j (List.mem_range.mp hj)
 simp [h2, h3]
theorem gapF_of (l : List Int) (hs : Small l) (hu : ups 0 l = true) (j : Nat) (hj : j < l.length) : (gapF l j).1 = l[j]?.getD 0 - nextI l j := by
 obtain ⟨h1, h2, h3, _⟩ := gapAt_of l hs hu j hj
 unfold gapF
 rw [dif_pos ⟨h2, h3⟩]
 exact h1
theorem gaps_tail (l : List Int) (hs : Small l) (hu : ups 0 l = true) : ∀ (d j : Nat), j + d = l.length →
  ((List.range d).map fun i => gapF l (j + i)).flatMap (fun x => (encB' x.1.toNat).data.toList) = body (nextI l j) (l.drop j) := by
 intro d
 induction d with
 | zero => intro j hj; rw [List.drop_of_length_le (by omega)]; simp [body]
 | succ d ih =>
  intro j hj
  have hlt : j < l.length := by omega
  have hg : l[j]?.getD 0 = l[j] := by simp [hlt]
  have hn : nextI l (j + 1) = l[j] + 1 := by unfold nextI; rw [if_neg (by omega), Nat.add_sub_cancel, hg]
  obtain ⟨h1, h2, h3, h4⟩ := gapAt_of l hs hu j hlt
  rw [List.drop_eq_getElem_cons hlt, body_cons, List.range_succ_eq_map, List.map_cons, List.flatMap_cons, ← hn, ← ih (j + 1) (by omega), List.map_map]
  congr 1
  ·rw [Nat.add_zero, gapF_of l hs hu j hlt, hg, encB'_of (by have := hs l[j] (List.getElem_mem hlt); omega)]
   rfl
  ·congr 2
   funext i
   simp only [Function.comp_apply]
   congr 1
   omega
theorem gapsBytes_of (l : List Int) (hs : Small l) (hu : ups 0 l = true) (hl : l.length ≤ 1000000000) : gapsBytes l = listEnc l := by
 unfold gapsBytes bytesL listEnc upto
 rw [encB'_of (by omega)]
 congr 1
 have := gaps_tail l hs hu l.length 0 (by omega)
 simpa [nextI] using this
theorem check_loop (l : List Int) (hl : ∀ x ∈ l, -9223372036854775808 ≤ x ∧ x ≤ 9223372036854775807) (hn : l.length ≤ 1000000000) : ∀ (d j : Nat) (last : Int), j + d = l.length → ∀ k, d < k →
  gaps_Check.l0 k last l (l.length : Int) (j : Int) = some (if ups (last + 1) (l.drop j) = true then 0 else 2) := by
 intro d
 induction d with
 | zero =>
  intro j last hj k hk
  obtain ⟨k, rfl⟩ : ∃ m, k = m + 1 := ⟨k - 1, by omega⟩
  simp only [gaps_Check.l0]
  rw [if_neg (by omega), List.drop_of_length_le (by omega)]
  simp [ups]
 | succ d ih =>
  intro j last hj k hk
  obtain ⟨k, rfl⟩ : ∃ m, k = m + 1 := ⟨k - 1, by omega⟩
  have hlt : j < l.length := by omega
  have hm := hl l[j] (List.getElem_mem hlt)
  have hr : rd l (j : Int) = l[j] := by simp [rd, List.getD, hlt]
  simp only [gaps_Check.l0]
  rw [if_pos (by omega), if_pos (by omega), if_pos (by omega), hr, List.drop_eq_getElem_cons hlt]
  by_cases h : l[j] ≤ last
  ·rw [if_pos h, if_neg (by rw [ups_cons]; omega)]
  ·rw [if_neg h, show wrap64 ((j : Int) + 1) = ((j + 1 : Nat) : Int) by unfold wrap64; omega, ih (j + 1) l[j] (by omega) k (by omega)]
   congr 2
   rw [eq_iff_iff, ups_cons]
   exact ⟨fun h' => ⟨by omega, h'⟩, fun h' => h'.2⟩
theorem Check_at (l : List Int) (hl : ∀ x ∈ l, -9223372036854775808 ≤ x ∧ x ≤ 9223372036854775807) (hn : l.length ≤ 1000000000) (k : Nat) (hk : l.length < k) : gaps_Check.f k l = some (if ups 0 l = true then 0 else 2) := by
 unfold gaps_Check.f
 exact check_loop l hl hn l.length 0 (-1) (by omega) k hk
theorem Encode_at (l : List Int) (hl : ∀ x ∈ l, -9223372036854775808 ≤ x ∧ x ≤ 9223372036854775807) (hn : l.length ≤ 1000000000) (k : Nat) (hk : l.length < k) :
  gaps_Encode.f k l = some (if ups 0 l = true then (⟨(listEnc l).toArray⟩, 0) else (⟨#[]⟩, 2)) := by
 unfold gaps_Encode.f
 rw [Check_at l hl hn k hk]
 have hs : Small l := fun x hx => (hl x hx).2
 by_cases h : ups 0 l = true
 ·rw [if_pos h, if_pos h, Option.bind_some, if_pos rfl, if_pos ⟨hn, gapsOk_of l hs h⟩, gapsBytes_of l hs h hn]
 ·rw [if_neg h, if_neg h, Option.bind_some, if_neg (by omega)]
/-! ### gaps.Decode -/
theorem decode_loop (s : ByteArray) (hs : s.size ≤ 1000000) : ∀ (rem p : Nat) (acc : List Int) (last : Int) (m i : Nat), p + rem = s.size → acc.length ≤ p → i ≤ m → m ≤ 9223372036854775807 → i ≤ p → -1 ≤ last → last ≤ 9223372036854775807 → ∀ k, rem + 30 < k →
  ∃ res, gaps_Decode.l0 k s acc (p : Int) last (m : Int) (i : Int) = some res ∧
   (∀ l r, RestAt s p (last + 1) ((m : Int) - i) l r → res = (acc ++ l, (s.size : Int) - r.length, 0)) ∧ ((¬ ∃ l r, RestAt s p (last + 1) ((m : Int) - i) l r) → res = ([], 0, 10)) := by
 intro rem
 induction rem using Nat.strongRecOn with
 | ind rem ih =>
  intro p acc last m i hp hacc him hm hip hl0 hl1 k hk
  obtain ⟨k, rfl⟩ : ∃ j, k = j + 1 := ⟨k - 1, by omega⟩
  simp only [gaps_Decode.l0]
  by_cases hi : i < m
  ·rw [if_pos (by omega), Get_at s (by omega) _ k (by omega)]
   simp only [Option.bind_some]
   have hstep : ∀ l r, RestAt s p (last + 1) ((m : Int) - i) l r → ∃ n l', l = n :: l' ∧ last + 1 ≤ n ∧ n ≤ 9223372036854775807 ∧ ups (n + 1) l' = true ∧ Small l' ∧ StandsAt s (p : Int) (n - (last + 1)).toNat (body (n + 1) l' ++ r) := by
    intro l r h
    obtain ⟨h1, h2, h3, h4⟩ := h
    cases l with
    | nil => simp at h1; omega
    | cons n l' =>
     rw [ups_cons] at h2
     have hn := h3 n List.mem_cons_self
     rw [body_cons, List.append_assoc] at h4
     exact ⟨n, l', rfl, h2.1, hn, h2.2, fun x hx => h3 x (List.mem_cons_of_mem _ hx), by omega, by omega, by omega, by rw [Int.toNat_natCast]; exact h4⟩
   by_cases hst : ∃ u r, StandsAt s (p : Int) u r
   ·obtain ⟨u, r, hst⟩ := hst
    have hlen := hst.len
    have hp1 := enc_pos u
    have hrl : (r.length : Int) ≥ 0 := by omega
    by_cases hu : u ≤ 9223372036854775807
    ·rw [getR_yes hst hu]
     rw [if_pos rfl]
     by_cases hmax : last = 9223372036854775807
     ·rw [if_pos hmax]
      refine ⟨_, rfl, ?_, fun _ => rfl⟩
      intro l q h
      obtain ⟨n, l', _, h1, h2, _⟩ := hstep l q h
      omega
     ·rw [if_neg hmax, show wrap64 (9223372036854775806 - last) = 9223372036854775806 - last by unfold wrap64; omega]
      by_cases hbig : (u : Int) > 9223372036854775806 - last
      ·rw [if_pos hbig]
       refine ⟨_, rfl, ?_, fun _ => rfl⟩
       intro l q h
       obtain ⟨n, l', _, h1, h2, _, _, h3⟩ := hstep l q h
       have := (hst.one h3).1
       omega
      ·rw [if_neg hbig, if_pos (by omega)]
       have e1 : wrap64 (last + wrap64 ((u : Int) + 1)) = last + 1 + u := by unfold wrap64; omega
       obtain ⟨p', hp'⟩ : ∃ p' : Nat, (s.size : Int) - r.length = p' := ⟨p + (enc u).length, by rw [hlen]; omega⟩
       have hpp : p' = p + (enc u).length := by omega
       have hdrop : s.data.toList.drop p' = r := by
        have h4 := hst.2.2.2
        rw [Int.toNat_natCast] at h4
        rw [hpp, ← List.drop_drop, h4, List.drop_left]
       have hp's : p' ≤ s.size := by omega
       rw [e1, hp', show wrap64 ((i : Int) + 1) = ((i + 1 : Nat) : Int) by unfold wrap64; omega]
       obtain ⟨res, hr, g1, g2⟩ := ih (s.size - p') (by omega) p' (acc ++ [last + 1 + u]) (last + 1 + u) m (i + 1) (by omega) (by simp; omega) (by omega) hm (by omega) (by omega) (by omega) k (by omega)
       refine ⟨res, hr, ?_, ?_⟩
       ·intro l q h
        obtain ⟨n, l', rfl, h1, h2, h3, h5, h6⟩ := hstep l q h
        obtain ⟨eu, er⟩ := hst.one h6
        have en : n = last + 1 + u := by omega
        subst en
        have := g1 l' q ⟨by have := h.1; simp at this ⊢; omega, h3, h5, by rw [hdrop, er]⟩
        rw [this, List.append_assoc]
        rfl
       ·intro h
        refine g2 ?_
        rintro ⟨l', q, h1, h2, h3, h4⟩
        refine h ⟨(last + 1 + u) :: l', q, by simp at h1 ⊢; omega, by rw [ups_cons]; exact ⟨by omega, h2⟩, ?_, ?_⟩
        ·intro x hx
         rcases List.mem_cons.mp hx with rfl | hx
         ·omega
         ·exact h3 x hx
        ·have h5 := hst.2.2.2
         rw [Int.toNat_natCast] at h5
         rw [h5, body_cons, List.append_assoc, ← h4, hdrop]
         congr 2
         omega
    ·rw [getR_big hst (by omega)]
     rw [if_neg (by simp)]
     refine ⟨_, rfl, ?_, fun _ => rfl⟩
     intro l q h
     obtain ⟨n, l', _, h1, h2, _, _, h3⟩ := hstep l q h
     have := (hst.one h3).1
     omega
   ·rw [getR_no hst]
    rw [if_neg (by simp)]
    refine ⟨_, rfl, ?_, fun _ => rfl⟩
    intro l q h
    obtain ⟨n, l', _, _, _, _, _, h3⟩ := hstep l q h
    exact absurd ⟨_, _, h3⟩ hst
  ·rw [if_neg (by omega)]
   obtain rfl : i = m := by omega
   refine ⟨_, rfl, ?_, ?_⟩
   ·intro l r h
    obtain ⟨h1, h2, h3, h4⟩ := h
    have : l = [] := List.length_eq_zero_iff.mp (by omega)
    subst this
    have h5 := congrArg List.length h4
    rw [List.length_drop, data_length] at h5
    simp only [body, List.nil_append] at h5
    simp only [List.append_nil, Prod.mk.injEq, true_and, and_true]
    omega
   ·intro h
    exact absurd ⟨[], s.data.toList.drop p, by simp, rfl, by intro x hx; simp at hx, by simp [body]⟩ h
theorem Decode_at (s : ByteArray) (hs : s.size ≤ 1000000) (a : Int) (k : Nat) (hk : s.size + 40 < k) : gaps_Decode.f k s a = some (decR s a) := by
 unfold gaps_Decode.f
 rw [Get_at s (by omega) a k (by omega)]
 obtain ⟨k, rfl⟩ : ∃ j, k = j + 1 := ⟨k - 1, by omega⟩
 simp only [Option.bind_some]
 by_cases hst : ∃ u r, StandsAt s a u r
 ·obtain ⟨u, r, hst⟩ := hst
  have hlen := hst.len
  have h0 := hst.1
  have h1 := hst.2.1
  have hrl : (r.length : Int) ≥ 0 := by omega
  have hno : ∀ l q, ListAt s a l q → u = l.length ∧ r = body 0 l ++ q ∧ ups 0 l = true ∧ Small l := by
   intro l q h
   have hll : l.length < 18446744073709551616 := by
    have := congrArg List.length h.2.2.2.2
    rw [List.length_drop, data_length, List.length_append, listEnc, List.length_append] at this
    have := body_len l 0
    omega
   obtain ⟨q', h2, h3, h4, h5⟩ := (listAt_iff h0 h1 hll).1 h
   obtain ⟨e1, e2⟩ := hst.one h2
   exact ⟨e1, by rw [e2, h3], h4, h5⟩
  by_cases hu : u ≤ 9223372036854775807
  ·rw [getR_yes hst hu, hlen]
   rw [if_pos rfl]
   simp only [gaps_Decode.j0]
   rw [show wrap64 ((s.size : Int) - (a + (enc u).length)) = (s.size : Int) - (a + (enc u).length) by unfold wrap64; omega]
   by_cases hbig : (u : Int) > (s.size : Int) - (a + (enc u).length)
   ·rw [if_pos (decide_eq_true hbig), decR_no]
    rintro ⟨l, q, h⟩
    obtain ⟨e1, e2, _, _⟩ := hno l q h
    have := congrArg List.length e2
    rw [List.length_append] at this
    have := body_len l 0
    omega
   ·rw [if_neg (by simpa using hbig)]
    obtain ⟨p, hp⟩ : ∃ p : Nat, a + (enc u).length = p := ⟨a.toNat + (enc u).length, by omega⟩
    have hdrop : s.data.toList.drop p = r := by
     rw [show p = a.toNat + (enc u).length by omega, ← List.drop_drop, hst.2.2.2, List.drop_left]
    rw [hp]
    obtain ⟨res, hr, g1, g2⟩ := decode_loop s hs (s.size - p) p [] (-1) u 0 (by omega) (by simp) (by omega) hu (by omega) (by omega) (by omega) k (by omega)
    rw [show ((0 : Int)) = ((0 : Nat) : Int) by rfl, hr]
    congr 1
    by_cases hl : ∃ l q, ListAt s a l q
    ·obtain ⟨l, q, hl⟩ := hl
     obtain ⟨e1, e2, e3, e4⟩ := hno l q hl
     rw [decR_yes hl]
     exact g1 l q ⟨by omega, e3, e4, by rw [hdrop, e2]; rfl⟩
    ·rw [decR_no hl]
     refine g2 ?_
     rintro ⟨l, q, h2, h3, h4, h5⟩
     refine hl ⟨l, q, (listAt_iff h0 h1 (by omega)).2 ⟨r, ?_, ?_, h3, h4⟩⟩
     ·have : l.length = u := by omega
      rw [this]; exact hst
     ·rw [← hdrop, h5]; rfl
  ·rw [getR_big hst (by omega)]
   rw [if_neg (by simp)]
   simp only [gaps_Decode.j0, if_true]
   rw [decR_no]
   rintro ⟨l, q, h⟩
   obtain ⟨e1, e2, _, _⟩ := hno l q h
   have := congrArg List.length e2
   rw [List.length_append] at this
   have := body_len l 0
   omega
 ·rw [getR_no hst]
  rw [if_neg (by simp)]
  simp only [gaps_Decode.j0, if_true]
  rw [decR_no]
  rintro ⟨l, q, h⟩
  have hll : l.length < 18446744073709551616 := by
   have := congrArg List.length h.2.2.2.2
   rw [List.length_drop, data_length, List.length_append, listEnc, List.length_append] at this
   have := body_len l 0
   omega
  obtain ⟨q', h2, _⟩ := (listAt_iff h.1 h.2.1 hll).1 h
  exact hst ⟨_, _, h2⟩
theorem list_size (l : List UInt8) : (⟨l.toArray⟩ : ByteArray).size = l.length := by unfold ByteArray.size; simp
theorem body_le : ∀ (l : List Int) (nx : Int), 0 ≤ nx → (∀ x ∈ l, x ≤ 9223372036854775807) → (body nx l).length ≤ 10 * l.length ∨ ups nx l = false := by
 intro l
 induction l with
 | nil => intro nx _ _; left; simp [body]
 | cons n l ih =>
  intro nx h0 hl
  by_cases h : nx ≤ n
  ·have hn := hl n List.mem_cons_self
   rcases ih (n + 1) (by omega) (fun x hx => hl x (List.mem_cons_of_mem _ hx)) with h1 | h1
   ·left
    rw [body_cons, List.length_append, List.length_cons]
    have := enc_len10 (u := (n - nx).toNat) (by omega)
    omega
   ·right
    simp [ups, h1]
  ·right
   simp [ups, h]
theorem listEnc_le (l : List Int) (hl : ∀ x ∈ l, -9223372036854775808 ≤ x ∧ x ≤ 9223372036854775807) (hn : l.length ≤ 1000000000) : (listEnc l).length ≤ 10 * l.length + 10 ∨ ups 0 l = false := by
 rcases body_le l 0 (by omega) (fun x hx => (hl x hx).2) with h | h
 ·left
  unfold listEnc
  rw [List.length_append]
  have := enc_len10 (u := l.length) (by omega)
  omega
 ·exact .inr h
theorem decR_small (s : ByteArray) (hs : s.size ≤ 5000) (a : Int) : (decR s a).1.length ≤ 5000 := by
 by_cases h : ∃ l r, ListAt s a l r
 ·obtain ⟨l, r, h⟩ := h
  rw [decR_yes h]
  show l.length ≤ 5000
  have := congrArg List.length h.2.2.2.2
  rw [List.length_drop, data_length, List.length_append, listEnc, List.length_append] at this
  have := body_len l 0
  omega
 ·rw [decR_no h]; simp
theorem ups_bound : ∀ (l : List Int) (nx : Int), 0 ≤ nx → ups nx l = true → ∀ x ∈ l, 0 ≤ x := by
 intro l
 induction l with
 | nil => intro nx _ _ x hx; simp at hx
 | cons n l ih =>
  intro nx h0 hu x hx
  rw [ups_cons] at hu
  rcases List.mem_cons.mp hx with rfl | hx
  ·omega
  ·exact ih (n + 1) (by omega) hu.2 x hx
/-! ### the reference's bytes and number -/
theorem bytes_loop : ∀ (d u : Nat) (acc : ByteArray), u < 128 ^ (d + 1) → u < 18446744073709551616 → acc.size + d ≤ 1000 → ∀ k, d < k → carouselref01_bytes.l0 k (u : Int) acc = some (acc ++ encB u) := by
 intro d
 induction d with
 | zero =>
  intro u acc hu hu2 ha k hk
  obtain ⟨k, rfl⟩ : ∃ m, k = m + 1 := ⟨k - 1, by omega⟩
  simp only [carouselref01_bytes.l0, Option.bind_some, strOfNums_size, List.length_singleton]
  rw [if_neg (by omega), if_pos (by omega), encB_small (by omega), show ((u : Int) % 256) = u by omega]
 | succ d ih =>
  intro u acc hu hu2 ha k hk
  obtain ⟨k, rfl⟩ : ∃ m, k = m + 1 := ⟨k - 1, by omega⟩
  simp only [carouselref01_bytes.l0, Option.bind_some, strOfNums_size, List.length_singleton]
  by_cases h : u < 128
  ·rw [if_neg (by omega), if_pos (by omega), encB_small (by omega), show ((u : Int) % 256) = u by omega]
  ·have hlt : u / 128 < 128 ^ (d + 1) := by rw [Nat.div_lt_iff_lt_mul (by omega)]; rw [Nat.pow_succ] at hu; exact hu
   rw [if_pos (by omega), if_pos (by omega), wrap_u64, tdiv_128, tmod_128, show ((u / 128 : Nat) : Int) % 18446744073709551616 = ((u / 128 : Nat) : Int) by omega,
    show ((((u % 128 : Nat) : Int) % 256 + 128) % 256) = ((u % 128 + 128 : Nat) : Int) by omega]
   rw [ih (u / 128) _ hlt (by omega) (by rw [ByteArray.size_append, strOfNums_size]; simp; omega) k (by omega), ByteArray.append_assoc, ← encB_big (by omega)]
theorem bytes_at {u : Nat} (hu : u < 18446744073709551616) (k : Nat) (hk : 10 ≤ k) : carouselref01_bytes.f k (u : Int) = some (encB u) := by
 unfold carouselref01_bytes.f
 rw [bytes_loop 9 u _ (by have := p128; omega) hu (by show (0 : Nat) + 9 ≤ 1000; omega) k (by omega)]
 rw [show ((⟨#[]⟩ : ByteArray) ++ encB u) = encB u from ByteArray.empty_append]
def lastOf (s : ByteArray) (a e : Nat) (x : Nat) : Option (Int × Int × Bool) := if enc x = (s.data.toList.drop a).take (e + 1 - a) then some ((x : Int), ((e + 1 : Nat) : Int), true) else some (0, 0, false)
theorem number_last (s : ByteArray) (a e x k : Nat) (hs : s.size ≤ 5000) (ha : a ≤ e) (he : e < s.size) (hlt : x < 18446744073709551616) (hk : 10 ≤ k) :
  carouselref01_number.l1 (k + 1) s (a : Int) (e : Int) (x : Int) ((a : Int) - 1) = lastOf s a e x := by
 have e1 : wrap64 ((e : Int) + 1) = ((e + 1 : Nat) : Int) := by unfold wrap64; omega
 have h1 : ¬ (a : Int) - 1 ≥ a := by omega
 have h2 : (0 : Int) ≤ a := by omega
 have h3 : (a : Int) ≤ ((e + 1 : Nat) : Int) := by omega
 have h4 : ((e + 1 : Nat) : Int) ≤ (s.size : Int) := by omega
 simp only [carouselref01_number.l1]
 rw [if_neg h1, bytes_at hlt k hk, e1]
 simp only [Option.bind_some]
 rw [if_pos h2, if_pos h3, if_pos h4, encB_toList, extract_toList, Int.toNat_natCast, Int.toNat_natCast]
 rw [lastOf]
theorem number_l1 (s : ByteArray) (hs : s.size ≤ 5000) (a e : Nat) (ha : a ≤ e) (he : e < s.size) (X : Nat) (hX : X = valL ((s.data.toList.drop a).take (e + 1 - a)) % 18446744073709551616) :
  ∀ (n : Nat), a + n ≤ e + 1 → ∀ x : Nat, x = valL ((s.data.toList.drop (a + n)).take (e + 1 - (a + n))) % 18446744073709551616 → ∀ k, n + 11 < k →
  carouselref01_number.l1 k s (a : Int) (e : Int) (x : Int) (((a + n : Nat) : Int) - 1) = lastOf s a e X := by
 intro n
 induction n with
 | zero =>
  intro h x hx k hk
  obtain ⟨k, rfl⟩ : ∃ m, k = m + 1 := ⟨k - 1, by omega⟩
  rw [Nat.add_zero] at hx
  obtain rfl : x = X := hx.trans hX.symm
  have hlt : x < 18446744073709551616 := by rw [hx]; exact Nat.mod_lt _ (by omega)
  rw [Nat.add_zero]
  exact number_last s a e x k hs ha he hlt (by omega)
 | succ n ih =>
  intro h x hx k hk
  obtain ⟨k, rfl⟩ : ∃ m, k = m + 1 := ⟨k - 1, by omega⟩
  obtain ⟨c, hc, hcb, hd⟩ := byte_at s (a + n) (by omega)
  simp only [carouselref01_number.l1]
  rw [if_pos (by omega), show ((a + (n + 1) : Nat) : Int) - 1 = ((a + n : Nat) : Int) by omega, if_pos (by omega), if_pos (by omega), show wrap64 (((a + n : Nat) : Int) - 1) = ((a + n : Nat) : Int) - 1 by unfold wrap64; omega]
  rw [hcb, tmod_128]
  simp only [wrap_u64]
  have hv : ((x : Int) * 128 % 18446744073709551616 + ((c % 128 : Nat) : Int) % 18446744073709551616) % 18446744073709551616 = ((c % 128 + 128 * valL ((s.data.toList.drop (a + n + 1)).take (e - (a + n)))) % 18446744073709551616 : Nat) := by
   rw [show a + (n + 1) = a + n + 1 by omega, show e + 1 - (a + n + 1) = e - (a + n) by omega] at hx
   omega
  rw [hv]
  refine ih (by omega) _ ?_ k (by omega)
  rw [hd, show e + 1 - (a + n) = (e - (a + n)) + 1 by omega, List.take_succ_cons, valL_cons, u8_toNat hc]
theorem number_scan (s : ByteArray) (hs : s.size ≤ 5000) (a : Nat) : ∀ (n j : Nat), j + n = s.size → ∃ e m, j ≤ e ∧ e ≤ s.size ∧ m ≤ n + 1 ∧ ∀ k, carouselref01_number.l0 (k + m) s (a : Int) (j : Int) = carouselref01_number.j2 k s (a : Int) (e : Int) := by
 intro n
 induction n with
 | zero =>
  intro j hj
  refine ⟨j, 1, by omega, by omega, by omega, fun k => ?_⟩
  simp only [carouselref01_number.l0]
  rw [if_neg (by omega)]
 | succ n ih =>
  intro j hj
  obtain ⟨c, hc, hcb, hd⟩ := byte_at s j (by omega)
  by_cases hlow : c < 128
  ·refine ⟨j, 1, by omega, by omega, by omega, fun k => ?_⟩
   simp only [carouselref01_number.l0]
   rw [if_pos (by omega), if_pos (by omega), hcb, if_neg (by omega)]
  ·obtain ⟨e, m, h1, h2, h3, h4⟩ := ih (j + 1) (by omega)
   refine ⟨e, m + 1, by omega, by omega, by omega, fun k => ?_⟩
   rw [← Nat.add_assoc]
   simp only [carouselref01_number.l0]
   rw [if_pos (by omega), if_pos (by omega), hcb, if_pos (by omega), show wrap64 ((j : Int) + 1) = ((j + 1 : Nat) : Int) by unfold wrap64; omega]
   exact h4 k
theorem number_scan_at (s : ByteArray) (hs : s.size ≤ 5000) (a : Nat) (r : List UInt8) : ∀ (u j : Nat), s.data.toList.drop j = enc u ++ r → ∀ k, carouselref01_number.l0 (k + (enc u).length) s (a : Int) (j : Int) = carouselref01_number.j2 k s (a : Int) ((j + (enc u).length - 1 : Nat) : Int) := by
 intro u
 induction u using Nat.strongRecOn with
 | ind u ih =>
  intro j hd k
  have hl := congrArg List.length hd
  rw [List.length_drop, data_length, List.length_append] at hl
  have hp := enc_pos u
  obtain ⟨c, hc, hcb, hd'⟩ := byte_at s j (by omega)
  rw [hd'] at hd
  by_cases h : u < 128
  ·rw [enc_small h] at hd ⊢
   simp only [List.cons_append, List.nil_append, List.cons.injEq] at hd
   have := u8_inj hc (by omega) hd.1
   simp only [List.length_singleton, carouselref01_number.l0]
   rw [if_pos (by omega), if_pos (by omega), hcb, if_neg (by omega)]
   rfl
  ·rw [enc_big (by omega)] at hd ⊢
   simp only [List.cons_append, List.cons.injEq] at hd
   have := u8_inj hc (by omega) hd.1
   rw [List.length_cons, ← Nat.add_assoc]
   simp only [carouselref01_number.l0]
   rw [if_pos (by omega), if_pos (by omega), hcb, if_pos (by omega), show wrap64 ((j : Int) + 1) = ((j + 1 : Nat) : Int) by unfold wrap64; omega]
   rw [ih (u / 128) (by omega) (j + 1) hd.2 k]
   congr 2
   omega
theorem number_at (s : ByteArray) (hs : s.size ≤ 5000) (a : Int) (k : Nat) (hk : 2 * s.size + 100 < k) : ∃ res, carouselref01_number.f k s a = some res ∧
  (∀ u r, StandsAt s a u r → res = ((u : Int), (s.size : Int) - r.length, true)) ∧ (res.2.2 = true → ∃ u r, StandsAt s a u r) := by
 unfold carouselref01_number.f
 obtain ⟨k, rfl⟩ : ∃ m, k = m + 1 := ⟨k - 1, by omega⟩
 by_cases h0 : a < 0
 ·rw [if_pos h0]
  simp only [carouselref01_number.j0, if_true]
  exact ⟨_, rfl, fun u r h => by have := h.1; omega, fun h => by simp at h⟩
 ·rw [if_neg h0]
  by_cases h1 : a > (s.size : Int)
  ·simp only [carouselref01_number.j0, decide_eq_true h1, if_true]
   exact ⟨_, rfl, fun u r h => by have := h.2.1; omega, fun h => by simp at h⟩
  ·simp only [carouselref01_number.j0, decide_eq_false h1, Bool.false_eq_true, if_false]
   obtain ⟨n, rfl⟩ := Int.eq_ofNat_of_zero_le (show 0 ≤ a by omega)
   by_cases hst : ∃ u r, StandsAt s (n : Int) u r
   ·obtain ⟨u, r, hst⟩ := hst
    have hlen := hst.len
    have hone := fun v q (h : StandsAt s (n : Int) v q) => hst.one h
    obtain ⟨g0, g1, g2, g3⟩ := hst
    rw [Int.toNat_natCast] at g3
    have hp := enc_pos u
    have h10 := enc_len10 g2
    have hl := congrArg List.length g3
    rw [List.length_drop, data_length, List.length_append] at hl
    obtain ⟨k, rfl⟩ : ∃ m, k = m + (enc u).length := ⟨k - (enc u).length, by omega⟩
    rw [number_scan_at s hs n r u n g3 k]
    obtain ⟨e, he⟩ : ∃ e, e + 1 = n + (enc u).length := ⟨n + (enc u).length - 1, by omega⟩
    rw [show n + (enc u).length - 1 = e by omega]
    obtain ⟨k, rfl⟩ : ∃ m, k = m + 2 := ⟨k - 2, by omega⟩
    have hgo : carouselref01_number.j3 (k + 1) s (n : Int) (e : Int) false = some ((u : Int), (s.size : Int) - r.length, true) := by
     simp only [carouselref01_number.j3, Bool.false_eq_true, if_false]
     have := number_l1 s hs n e (by omega) (by omega) u (by rw [show e + 1 - n = (enc u).length by omega, g3, List.take_left, valL_enc, Nat.mod_eq_of_lt g2]) (enc u).length (by omega) 0
      (by rw [← he, Nat.sub_self, List.take_zero, valL_nil]) k (by omega)
     rw [← he, show ((e + 1 : Nat) : Int) - 1 = (e : Int) by omega] at this
     rw [show ((0 : Int)) = ((0 : Nat) : Int) by rfl, this]
     unfold lastOf
     rw [show e + 1 - n = (enc u).length by omega, g3, List.take_left, if_pos rfl]
     congr 2
     congr 1
     omega
    refine ⟨((u : Int), (s.size : Int) - r.length, true), ?_, ?_, fun _ => ⟨u, r, by omega, by omega, g2, g3⟩⟩
    ·simp only [carouselref01_number.j2]
     rw [if_neg (by omega), show wrap64 ((e : Int) - n) = ((e - n : Nat) : Int) by unfold wrap64; omega, if_neg (by omega)]
     by_cases h9 : ((e - n : Nat) : Int) = 9
     ·rw [if_pos h9, if_pos (by omega), if_pos (by omega)]
      obtain ⟨c, hc, hcb, hd⟩ := byte_at s e (by omega)
      obtain ⟨c', q1, q2⟩ := enc_last 9 u (by omega)
      have hq : s.data.toList[e]? = some (UInt8.ofNat c) := by
       rw [← List.head?_drop, hd]; rfl
      have hq' : s.data.toList[e]? = some c' := by
       have : (s.data.toList.drop n)[9]? = some c' := by rw [g3, List.getElem?_append_left (by omega)]; exact q1
       rw [List.getElem?_drop] at this
       rw [← this]; congr 1; omega
      have hcc : UInt8.ofNat c = c' := Option.some.inj (hq.symm.trans hq')
      have : c = u / 128 ^ 9 := by rw [← q2, ← hcc, u8_toNat hc]
      have : c ≤ 1 := by rw [this, p128']; omega
      rw [hcb, decide_eq_false (by omega), hgo]
     ·rw [if_neg h9, hgo]
    ·intro v q h
     obtain ⟨rfl, rfl⟩ := hone v q h
     rfl
   ·obtain ⟨e, m, h2, h3, h4, h5⟩ := number_scan s hs n (s.size - n) n (by omega)
    obtain ⟨k, rfl⟩ : ∃ j, k = j + m := ⟨k - m, by omega⟩
    rw [h5 k]
    have hbad : ∃ res, carouselref01_number.j2 k s (n : Int) (e : Int) = some res ∧ (res.2.2 = true → ∃ u r, StandsAt s (n : Int) u r) := by
     obtain ⟨k, rfl⟩ : ∃ j, k = j + 2 := ⟨k - 2, by omega⟩
     have ht : ∃ res, carouselref01_number.j3 (k + 1) s (n : Int) (e : Int) true = some res ∧ (res.2.2 = true → ∃ u r, StandsAt s (n : Int) u r) := by
      simp only [carouselref01_number.j3, if_true]
      exact ⟨_, rfl, fun h => by simp at h⟩
     simp only [carouselref01_number.j2]
     by_cases q1 : e < s.size
     ·have hf : ∃ res, carouselref01_number.j3 (k + 1) s (n : Int) (e : Int) false = some res ∧ (res.2.2 = true → ∃ u r, StandsAt s (n : Int) u r) := by
       simp only [carouselref01_number.j3, Bool.false_eq_true, if_false]
       obtain ⟨X, hX⟩ : ∃ X, X = valL ((s.data.toList.drop n).take (e + 1 - n)) % 18446744073709551616 := ⟨_, rfl⟩
       have hlt : X < 18446744073709551616 := by rw [hX]; exact Nat.mod_lt _ (by omega)
       have := number_l1 s hs n e (by omega) (by omega) X hX (e + 1 - n) (by omega) 0 (by rw [show n + (e + 1 - n) = e + 1 by omega, Nat.sub_self, List.take_zero, valL_nil]) k (by omega)
       rw [show n + (e + 1 - n) = e + 1 by omega, show ((e + 1 : Nat) : Int) - 1 = (e : Int) by omega] at this
       rw [show ((0 : Int)) = ((0 : Nat) : Int) by rfl, this]
       clear hX
       unfold lastOf
       split
       ·rename_i hq
        refine ⟨_, rfl, fun _ => ⟨X, (s.data.toList.drop n).drop (e + 1 - n), by omega, by omega, hlt, ?_⟩⟩
        rw [hq, Int.toNat_natCast, List.take_append_drop]
       ·exact ⟨_, rfl, fun h => by simp at h⟩
      rw [if_neg (by omega), show wrap64 ((e : Int) - n) = ((e - n : Nat) : Int) by unfold wrap64; omega]
      by_cases q2 : ((e - n : Nat) : Int) > 9
      ·rw [if_pos q2]; exact ht
      ·rw [if_neg q2]
       by_cases q3 : ((e - n : Nat) : Int) = 9
       ·rw [if_pos q3, if_pos (by omega), if_pos (by omega)]
        by_cases q4 : bt s (e : Int) > 1
        ·rw [decide_eq_true q4]; exact ht
        ·rw [decide_eq_false q4]; exact hf
       ·rw [if_neg q3]; exact hf
     ·rw [if_pos (by omega)]; exact ht
    obtain ⟨res, hr, hb⟩ := hbad
    exact ⟨res, hr, fun u r h => absurd ⟨u, r, h⟩ hst, hb⟩
theorem refGet_at (s : ByteArray) (hs : s.size ≤ 5000) (a : Int) (k : Nat) (hk : 2 * s.size + 100 < k) : carouselref01_Get.f k s a = some (getR s a) := by
 obtain ⟨⟨x, y, b⟩, hr, g1, g2⟩ := number_at s hs a k hk
 unfold carouselref01_Get.f
 rw [hr]
 simp only [Option.bind_some]
 by_cases h : ∃ u r, StandsAt s a u r
 ·obtain ⟨u, r, h⟩ := h
  have e := g1 u r h
  simp only [Prod.mk.injEq] at e
  obtain ⟨rfl, rfl, rfl⟩ := e
  rw [if_pos rfl]
  by_cases hm : u ≤ 9223372036854775807
  ·rw [if_neg (by omega), getR_yes h hm, show wrap64 (u : Int) = u by unfold wrap64; omega]
  ·rw [if_pos (by omega), getR_big h (by omega)]
 ·have e : b = false := by
   cases b with
   | false => rfl
   | true => exact absurd (g2 rfl) h
  subst e
  rw [if_neg (by simp), getR_no h]
theorem refDecode_loop (s : ByteArray) (hs : s.size ≤ 5000) : ∀ (rem p : Nat) (acc : List Int) (nx : Int) (m i : Nat), p + rem = s.size → acc.length = i → i ≤ m → m ≤ 9223372036854775807 → i ≤ p → 0 ≤ nx → nx ≤ 9223372036854775808 →
  (i = 0 → nx = 0) → (0 < i → rd acc ((i - 1 : Nat) : Int) = nx - 1) → ∀ k, rem + 2 * s.size + 200 < k →
  ∃ res, carouselref02_Decode.l0 k s (m : Int) (p : Int) acc (i : Int) = some res ∧
   (∀ l r, RestAt s p nx ((m : Int) - i) l r → res = (acc ++ l, (s.size : Int) - r.length, 0)) ∧ ((¬ ∃ l r, RestAt s p nx ((m : Int) - i) l r) → res = ([], 0, 10)) := by
 intro rem
 induction rem using Nat.strongRecOn with
 | ind rem ih =>
  intro p acc nx m i hp hacc him hm hip hl0 hl1 hz hlast k hk
  obtain ⟨k, rfl⟩ : ∃ j, k = j + 1 := ⟨k - 1, by omega⟩
  simp only [carouselref02_Decode.l0]
  by_cases hi : i < m
  ·rw [if_pos (by omega), refGet_at s hs _ k (by omega)]
   simp only [Option.bind_some]
   have hstep : ∀ l r, RestAt s p nx ((m : Int) - i) l r → ∃ n l', l = n :: l' ∧ nx ≤ n ∧ n ≤ 9223372036854775807 ∧ ups (n + 1) l' = true ∧ Small l' ∧ StandsAt s (p : Int) (n - nx).toNat (body (n + 1) l' ++ r) := by
    intro l r h
    obtain ⟨h1, h2, h3, h4⟩ := h
    cases l with
    | nil => simp at h1; omega
    | cons n l' =>
     rw [ups_cons] at h2
     have hn := h3 n List.mem_cons_self
     rw [body_cons, List.append_assoc] at h4
     exact ⟨n, l', rfl, h2.1, hn, h2.2, fun x hx => h3 x (List.mem_cons_of_mem _ hx), by omega, by omega, by omega, by rw [Int.toNat_natCast]; exact h4⟩
   by_cases hst : ∃ u r, StandsAt s (p : Int) u r
   ·obtain ⟨u, r, hst⟩ := hst
    have hlen := hst.len
    have hp1 := enc_pos u
    have hrl : (r.length : Int) ≥ 0 := by omega
    by_cases hu : u ≤ 9223372036854775807
    ·rw [getR_yes hst hu]
     rw [if_pos rfl]
     obtain ⟨p', hp'⟩ : ∃ p' : Nat, (s.size : Int) - r.length = p' := ⟨p + (enc u).length, by rw [hlen]; omega⟩
     have hpp : p' = p + (enc u).length := by omega
     have hdrop : s.data.toList.drop p' = r := by
      have h4 := hst.2.2.2
      rw [Int.toNat_natCast] at h4
      rw [hpp, ← List.drop_drop, h4, List.drop_left]
     have hp's : p' ≤ s.size := by omega
     have hgo : nx + u ≤ 9223372036854775807 → ∃ res, carouselref02_Decode.l0 k s (m : Int) (p' : Int) (acc ++ [nx + u]) ((i + 1 : Nat) : Int) = some res ∧
       (∀ l r, RestAt s p nx ((m : Int) - i) l r → res = (acc ++ l, (s.size : Int) - r.length, 0)) ∧ ((¬ ∃ l r, RestAt s p nx ((m : Int) - i) l r) → res = ([], 0, 10)) := by
      intro hfit
      obtain ⟨res, hr, g1, g2⟩ := ih (s.size - p') (by omega) p' (acc ++ [nx + u]) (nx + u + 1) m (i + 1) (by omega) (by simp; omega) (by omega) hm (by omega) (by omega) (by omega) (fun h => by omega)
       (fun _ => by simp [rd, List.getD, ← hacc]) k (by omega)
      refine ⟨res, hr, ?_, ?_⟩
      ·intro l q h
       obtain ⟨n, l', rfl, h1, h2, h3, h5, h6⟩ := hstep l q h
       obtain ⟨eu, er⟩ := hst.one h6
       have en : n = nx + u := by omega
       subst en
       have := g1 l' q ⟨by have := h.1; simp at this ⊢; omega, h3, h5, by rw [hdrop, er]⟩
       rw [this, List.append_assoc]
       rfl
      ·intro h
       refine g2 ?_
       rintro ⟨l', q, h1, h2, h3, h4⟩
       refine h ⟨(nx + u) :: l', q, by simp at h1 ⊢; omega, by rw [ups_cons]; exact ⟨by omega, h2⟩, ?_, ?_⟩
       ·intro x hx
        rcases List.mem_cons.mp hx with rfl | hx
        ·omega
        ·exact h3 x hx
       ·have h5 := hst.2.2.2
        rw [Int.toNat_natCast] at h5
        rw [h5, body_cons, List.append_assoc, ← h4, hdrop]
        congr 2
        omega
     have hbad : 9223372036854775807 < nx + u → ∃ res, (some (([] : List Int), (0 : Int), (10 : Int))) = some res ∧
       (∀ l r, RestAt s p nx ((m : Int) - i) l r → res = (acc ++ l, (s.size : Int) - r.length, 0)) ∧ ((¬ ∃ l r, RestAt s p nx ((m : Int) - i) l r) → res = ([], 0, 10)) := by
      intro hbig
      refine ⟨_, rfl, ?_, fun _ => rfl⟩
      intro l q h
      obtain ⟨n, l', _, h1, h2, _, _, h3⟩ := hstep l q h
      have := (hst.one h3).1
      omega
     by_cases hi0 : (i : Int) > 0
     ·have hrd := hlast (by omega)
      rw [if_pos hi0, show wrap64 ((i : Int) - 1) = ((i - 1 : Nat) : Int) by unfold wrap64; omega, if_pos (by omega), if_pos (by omega), hrd]
      have e0 : wrap64 (wrap64 (9223372036854775807 - (nx - 1)) - 1) = 9223372036854775807 - nx := by unfold wrap64; omega
      rw [e0]
      by_cases hbig : (u : Int) > 9223372036854775807 - nx
      ·rw [if_pos hbig]
       exact hbad (by omega)
      ·rw [if_neg hbig, if_neg (by omega), if_pos (by omega), show wrap64 (wrap64 (nx - 1 + 1) + (u : Int)) = nx + u by unfold wrap64; omega, hp', show wrap64 ((i : Int) + 1) = ((i + 1 : Nat) : Int) by unfold wrap64; omega]
       exact hgo (by omega)
     ·have e := hz (by omega)
      subst e
      rw [if_neg hi0, if_pos (by omega), hp', show wrap64 ((i : Int) + 1) = ((i + 1 : Nat) : Int) by unfold wrap64; omega]
      have := hgo (by omega)
      rw [Int.zero_add] at this
      exact this
    ·rw [getR_big hst (by omega)]
     rw [if_neg (by simp)]
     refine ⟨_, rfl, ?_, fun _ => rfl⟩
     intro l q h
     obtain ⟨n, l', _, h1, h2, _, _, h3⟩ := hstep l q h
     have := (hst.one h3).1
     omega
   ·rw [getR_no hst]
    rw [if_neg (by simp)]
    refine ⟨_, rfl, ?_, fun _ => rfl⟩
    intro l q h
    obtain ⟨n, l', _, _, _, _, _, h3⟩ := hstep l q h
    exact absurd ⟨_, _, h3⟩ hst
  ·rw [if_neg (by omega)]
   obtain rfl : i = m := by omega
   refine ⟨_, rfl, ?_, ?_⟩
   ·intro l r h
    obtain ⟨h1, h2, h3, h4⟩ := h
    have : l = [] := List.length_eq_zero_iff.mp (by omega)
    subst this
    have h5 := congrArg List.length h4
    rw [List.length_drop, data_length] at h5
    simp only [body, List.nil_append] at h5
    simp only [List.append_nil, Prod.mk.injEq, true_and, and_true]
    omega
   ·intro h
    exact absurd ⟨[], s.data.toList.drop p, by simp, rfl, by intro x hx; simp at hx, by simp [body]⟩ h
theorem refDecode_at (s : ByteArray) (hs : s.size ≤ 5000) (a : Int) (k : Nat) (hk : 3 * s.size + 300 < k) : carouselref02_Decode.f k s a = some (decR s a) := by
 unfold carouselref02_Decode.f
 rw [refGet_at s hs a k (by omega)]
 simp only [Option.bind_some]
 have hll : ∀ l q, ListAt s a l q → l.length < 18446744073709551616 := by
  intro l q h
  have := congrArg List.length h.2.2.2.2
  rw [List.length_drop, data_length, List.length_append, listEnc, List.length_append] at this
  have := body_len l 0
  omega
 by_cases hst : ∃ u r, StandsAt s a u r
 ·obtain ⟨u, r, hst⟩ := hst
  have hlen := hst.len
  have h0 := hst.1
  have h1 := hst.2.1
  have hrl : (r.length : Int) ≥ 0 := by omega
  have hno : ∀ l q, ListAt s a l q → u = l.length ∧ r = body 0 l ++ q ∧ ups 0 l = true ∧ Small l := by
   intro l q h
   obtain ⟨q', h2, h3, h4, h5⟩ := (listAt_iff h0 h1 (hll l q h)).1 h
   obtain ⟨e1, e2⟩ := hst.one h2
   exact ⟨e1, by rw [e2, h3], h4, h5⟩
  by_cases hu : u ≤ 9223372036854775807
  ·rw [getR_yes hst hu, hlen]
   rw [if_pos rfl]
   obtain ⟨p, hp⟩ : ∃ p : Nat, a + (enc u).length = p := ⟨a.toNat + (enc u).length, by omega⟩
   have hdrop : s.data.toList.drop p = r := by
    rw [show p = a.toNat + (enc u).length by omega, ← List.drop_drop, hst.2.2.2, List.drop_left]
   rw [hp]
   obtain ⟨res, hr, g1, g2⟩ := refDecode_loop s hs (s.size - p) p [] 0 u 0 (by omega) (by simp) (by omega) hu (by omega) (by omega) (by omega) (fun _ => rfl) (fun h => by omega) k (by omega)
   rw [show ((0 : Int)) = ((0 : Nat) : Int) by rfl, hr]
   congr 1
   by_cases hl : ∃ l q, ListAt s a l q
   ·obtain ⟨l, q, hl⟩ := hl
    obtain ⟨e1, e2, e3, e4⟩ := hno l q hl
    rw [decR_yes hl]
    exact g1 l q ⟨by omega, e3, e4, by rw [hdrop, e2]⟩
   ·rw [decR_no hl]
    refine g2 ?_
    rintro ⟨l, q, h2, h3, h4, h5⟩
    refine hl ⟨l, q, (listAt_iff h0 h1 (by omega)).2 ⟨r, ?_, ?_, h3, h4⟩⟩
    ·have : l.length = u := by omega
     rw [this]; exact hst
    ·rw [← hdrop, h5]
  ·rw [getR_big hst (by omega)]
   rw [if_neg (by simp), decR_no]
   rintro ⟨l, q, h⟩
   obtain ⟨e1, e2, _, _⟩ := hno l q h
   have := congrArg List.length e2
   rw [List.length_append] at this
   have := body_len l 0
   omega
 ·rw [getR_no hst]
  rw [if_neg (by simp), decR_no]
  rintro ⟨l, q, h⟩
  obtain ⟨q', h2, _⟩ := (listAt_iff h.1 h.2.1 (hll l q h)).1 h
  exact hst ⟨_, _, h2⟩
/-! ### the document's Check and Encode -/
theorem refPut_pos {n : Int} (h0 : 0 ≤ n) (h1 : n ≤ 9223372036854775807) (k : Nat) (hk : 10 ≤ k) : carouselref01_Put.f k n = some (encB n.toNat) := by
 unfold carouselref01_Put.f
 rw [if_neg (by omega), wrap_u64, show n % 18446744073709551616 = ((n.toNat : Nat) : Int) by omega, bytes_at (by omega) k hk]
 rfl
theorem refCheck_loop (l : List Int) (hl : ∀ x ∈ l, -9223372036854775808 ≤ x ∧ x ≤ 9223372036854775807) (hn : l.length ≤ 1000) : ∀ (d j : Nat) (nx : Int), j + d = l.length → 0 ≤ nx → (j = 0 → nx = 0) → (0 < j → nx = rd l ((j - 1 : Nat) : Int) + 1) → ∀ k, d < k →
  carouselref02_Check.l0 k l (j : Int) = some (if ups nx (l.drop j) = true then 0 else 2) := by
 intro d
 induction d with
 | zero =>
  intro j nx hj _ _ _ k hk
  obtain ⟨k, rfl⟩ : ∃ m, k = m + 1 := ⟨k - 1, by omega⟩
  simp only [carouselref02_Check.l0]
  rw [if_neg (by omega), List.drop_of_length_le (by omega)]
  simp [ups]
 | succ d ih =>
  intro j nx hj h0 hz hp k hk
  obtain ⟨k, rfl⟩ : ∃ m, k = m + 1 := ⟨k - 1, by omega⟩
  have hlt : j < l.length := by omega
  have hm := hl l[j] (List.getElem_mem hlt)
  have hr : rd l (j : Int) = l[j] := by simp [rd, List.getD, hlt]
  have hnext : ∀ (_ : nx ≤ l[j]), carouselref02_Check.l0 k l (wrap64 ((j : Int) + 1)) = some (if ups nx (l[j] :: l.drop (j + 1)) = true then 0 else 2) := by
   intro h
   rw [show wrap64 ((j : Int) + 1) = ((j + 1 : Nat) : Int) by unfold wrap64; omega, ih (j + 1) (l[j] + 1) (by omega) (by omega) (by omega) (by intro _; rw [Nat.add_sub_cancel, hr]) k (by omega)]
   congr 2
   rw [eq_iff_iff, ups_cons]
   exact ⟨fun h' => ⟨h, h'⟩, fun h' => h'.2⟩
  simp only [carouselref02_Check.l0]
  rw [if_pos (by omega), if_pos (by omega), hr, List.drop_eq_getElem_cons hlt]
  by_cases h : l[j] < 0
  ·rw [if_pos h, if_neg (by rw [ups_cons]; omega)]
  ·rw [if_neg h]
   by_cases hj0 : j = 0
   ·rw [if_neg (by omega)]
    exact hnext (by have := hz hj0; omega)
   ·have e1 : wrap64 ((j : Int) - 1) = ((j - 1 : Nat) : Int) := by unfold wrap64; omega
    rw [if_pos (by omega), e1, if_pos (by omega), if_pos (by omega)]
    have := hp (by omega)
    by_cases h2 : l[j] ≤ rd l ((j - 1 : Nat) : Int)
    ·rw [if_pos h2, if_neg (by rw [ups_cons]; omega)]
    ·rw [if_neg h2]
     exact hnext (by omega)
theorem refCheck_at (l : List Int) (hl : ∀ x ∈ l, -9223372036854775808 ≤ x ∧ x ≤ 9223372036854775807) (hn : l.length ≤ 1000) (k : Nat) (hk : l.length < k) : carouselref02_Check.f k l = some (if ups 0 l = true then 0 else 2) := by
 unfold carouselref02_Check.f
 exact refCheck_loop l hl hn l.length 0 0 (by omega) (by omega) (fun _ => rfl) (fun h => absurd h (by omega)) k hk
theorem encB_app (s : ByteArray) (u : Nat) (r : List UInt8) : (s ++ encB u) ++ (⟨r.toArray⟩ : ByteArray) = s ++ (⟨(enc u ++ r).toArray⟩ : ByteArray) := by
 apply ByteArray.ext
 simp [encB, ByteArray.data_append]
theorem refEncode_loop (l : List Int) (hl : ∀ x ∈ l, -9223372036854775808 ≤ x ∧ x ≤ 9223372036854775807) (hn : l.length ≤ 1000) : ∀ (d j : Nat) (nx : Int) (s : ByteArray), j + d = l.length → 0 ≤ nx → (j = 0 → nx = 0) → (0 < j → nx = rd l ((j - 1 : Nat) : Int) + 1) → ups nx (l.drop j) = true → s.size + 10 * d ≤ 1000000 → ∀ k, d + 10 < k →
  carouselref02_Encode.l0 k l s (j : Int) = some (s ++ (⟨(body nx (l.drop j)).toArray⟩ : ByteArray), 0) := by
 intro d
 induction d with
 | zero =>
  intro j nx s hj _ _ _ _ _ k hk
  obtain ⟨k, rfl⟩ : ∃ m, k = m + 1 := ⟨k - 1, by omega⟩
  simp only [carouselref02_Encode.l0]
  rw [if_neg (by omega), List.drop_of_length_le (by omega)]
  simp [body, ByteArray.ext_iff]
 | succ d ih =>
  intro j nx s hj h0 hz hp hu hs k hk
  obtain ⟨k, rfl⟩ : ∃ m, k = m + 1 := ⟨k - 1, by omega⟩
  have hlt : j < l.length := by omega
  have hm := hl l[j] (List.getElem_mem hlt)
  have hr : rd l (j : Int) = l[j] := by simp [rd, List.getD, hlt]
  rw [List.drop_eq_getElem_cons hlt, ups_cons] at hu
  have hb : (encB (l[j] - nx).toNat).size ≤ 10 := by rw [encB_size]; exact enc_len10 (by omega)
  have hstep : (if s.size + (encB (l[j] - nx).toNat).size ≤ 9223372036854775807 then carouselref02_Encode.l0 k l (s ++ encB (l[j] - nx).toNat) (wrap64 ((j : Int) + 1)) else none) = some (s ++ (⟨(body nx (l[j] :: l.drop (j + 1))).toArray⟩ : ByteArray), 0) := by
   rw [if_pos (by omega), show wrap64 ((j : Int) + 1) = ((j + 1 : Nat) : Int) by unfold wrap64; omega,
    ih (j + 1) (l[j] + 1) _ (by omega) (by omega) (by omega) (by intro _; rw [Nat.add_sub_cancel, hr]) hu.2 (by rw [ByteArray.size_append]; omega) k (by omega), encB_app, body_cons]
  simp only [carouselref02_Encode.l0]
  rw [if_pos (by omega), hr, List.drop_eq_getElem_cons hlt]
  by_cases hj0 : j = 0
  ·have := hz hj0
   rw [if_pos (by omega), if_pos (by omega), refPut_pos (n := l[j]) (by omega) (by omega) k (by omega), Option.bind_some, show l[j].toNat = (l[j] - nx).toNat by omega]
   exact hstep
  ·have e1 : wrap64 ((j : Int) - 1) = ((j - 1 : Nat) : Int) := by unfold wrap64; omega
   have := hp (by omega)
   have e2 : wrap64 (wrap64 (l[j] - rd l ((j - 1 : Nat) : Int)) - 1) = l[j] - nx := by unfold wrap64; omega
   rw [if_neg (by omega), if_pos (by omega), e1, if_pos (by omega), if_pos (by omega), e2, refPut_pos (n := l[j] - nx) (by omega) (by omega) k (by omega), Option.bind_some]
   exact hstep
theorem refEncode_at (l : List Int) (hl : ∀ x ∈ l, -9223372036854775808 ≤ x ∧ x ≤ 9223372036854775807) (hn : l.length ≤ 1000) (k : Nat) (hk : l.length + 20 < k) :
  carouselref02_Encode.f k l = some (if ups 0 l = true then (⟨(listEnc l).toArray⟩, 0) else (⟨#[]⟩, 2)) := by
 unfold carouselref02_Encode.f
 rw [refCheck_at l hl hn k (by omega), Option.bind_some]
 by_cases h : ups 0 l = true
 ·have hb : (encB l.length).size ≤ 10 := by rw [encB_size]; exact enc_len10 (by omega)
  rw [if_pos h, if_pos h, if_pos rfl, refPut_pos (n := (l.length : Int)) (by omega) (by omega) k (by omega), Option.bind_some, Int.toNat_natCast,
   show carouselref02_Encode.l0 k l (encB l.length) 0 = _ from refEncode_loop l hl hn l.length 0 0 (encB l.length) (by omega) (by omega) (fun _ => rfl) (fun h => absurd h (by omega)) (by simpa using h) (by omega) k (by omega)]
  congr 2
 ·rw [if_neg h, if_neg h, if_neg (by omega)]
/-! ### manifest: parts and their ends -/
def betw : Int → List Int → List S50
 | _, [] => []
 | fr, t :: l => ⟨fr, t⟩ :: betw t l
theorem betw_len (l : List Int) : ∀ fr, (betw fr l).length = l.length := by
 induction l with
 | nil => intro _; rfl
 | cons t l ih => intro fr; simp [betw, ih]
theorem betw_ends (l : List Int) : ∀ fr, (betw fr l).map (·.f1) = l := by
 induction l with
 | nil => intro _; rfl
 | cons t l ih => intro fr; simp [betw, ih]
theorem between_loop (l : List Int) (hn : l.length ≤ 1000000) : ∀ (d i : Nat) (acc : List S50) (fr : Int), i + d = l.length → acc.length = i → ∀ k, d < k →
  manifest_between.l0 k acc fr l (l.length : Int) (i : Int) = some (acc ++ betw fr (l.drop i)) := by
 intro d
 induction d with
 | zero =>
  intro i acc fr hi ha k hk
  obtain ⟨k, rfl⟩ : ∃ m, k = m + 1 := ⟨k - 1, by omega⟩
  simp only [manifest_between.l0]
  rw [if_neg (by omega), List.drop_of_length_le (by omega)]
  simp [betw]
 | succ d ih =>
  intro i acc fr hi ha k hk
  obtain ⟨k, rfl⟩ : ∃ m, k = m + 1 := ⟨k - 1, by omega⟩
  have hlt : i < l.length := by omega
  have hr : rd l (i : Int) = l[i] := by simp [rd, List.getD, hlt]
  simp only [manifest_between.l0]
  rw [if_pos (by omega), if_pos (by omega), if_pos (by omega), if_pos (by omega), hr, show wrap64 ((i : Int) + 1) = ((i + 1 : Nat) : Int) by unfold wrap64; omega, ih (i + 1) _ _ (by omega) (by simp; omega) k (by omega), List.drop_eq_getElem_cons hlt]
  simp [betw]
theorem between_at (l : List Int) (hn : l.length ≤ 1000000) (k : Nat) (hk : l.length < k) : manifest_between.f k l = some (betw 0 l) := by
 unfold manifest_between.f
 have := between_loop l hn l.length 0 [] 0 (by omega) rfl k hk
 simpa using this
theorem ends_loop (l : List S50) (hn : l.length ≤ 1000000) : ∀ (d i : Nat) (acc : List Int), i + d = l.length → acc.length = i → ∀ k, d < k →
  manifest_ends.l0 k acc l (l.length : Int) (i : Int) = some (acc ++ (l.drop i).map (·.f1)) := by
 intro d
 induction d with
 | zero =>
  intro i acc hi ha k hk
  obtain ⟨k, rfl⟩ : ∃ m, k = m + 1 := ⟨k - 1, by omega⟩
  simp only [manifest_ends.l0]
  rw [if_neg (by omega), List.drop_of_length_le (by omega)]
  simp
 | succ d ih =>
  intro i acc hi ha k hk
  obtain ⟨k, rfl⟩ : ∃ m, k = m + 1 := ⟨k - 1, by omega⟩
  have hlt : i < l.length := by omega
  have hr : rd_T50 l (i : Int) = l[i] := by simp [rd_T50, List.getD, hlt]
  simp only [manifest_ends.l0]
  rw [if_pos (by omega), if_pos (by omega), if_pos (by omega), if_pos (by omega), hr, show wrap64 ((i : Int) + 1) = ((i + 1 : Nat) : Int) by unfold wrap64; omega, ih (i + 1) _ (by omega) (by simp; omega) k (by omega), List.drop_eq_getElem_cons hlt, List.map_cons, List.append_assoc]
  rfl
theorem ends_at (l : List S50) (hn : l.length ≤ 1000000) (k : Nat) (hk : l.length < k) : manifest_ends.f k l = some (l.map (·.f1)) := by
 unfold manifest_ends.f
 have := ends_loop l hn l.length 0 [] (by omega) rfl k hk
 simpa using this
theorem parts_loop (l : List S50) (n : Int) (hn : l.length ≤ 1000000) : ∀ (d i : Nat) (at' : Int), i + d = l.length → ∀ k, d < k → ∃ e, parts_Check.l0 k n at' l (l.length : Int) (i : Int) = some e ∧ (e = 0 ∨ e = 2) := by
 intro d
 induction d with
 | zero =>
  intro i at' hi k hk
  obtain ⟨k, rfl⟩ : ∃ m, k = m + 1 := ⟨k - 1, by omega⟩
  simp only [parts_Check.l0]
  rw [if_neg (by omega)]
  by_cases h : at' = n
  ·exact ⟨0, by rw [if_pos h], .inl rfl⟩
  ·exact ⟨2, by rw [if_neg h], .inr rfl⟩
 | succ d ih =>
  intro i at' hi k hk
  obtain ⟨k, rfl⟩ : ∃ m, k = m + 1 := ⟨k - 1, by omega⟩
  simp only [parts_Check.l0]
  rw [if_pos (by omega), if_pos (by omega), if_pos (by omega), show wrap64 ((i : Int) + 1) = ((i + 1 : Nat) : Int) by unfold wrap64; omega]
  split
  ·split
   ·exact ⟨2, rfl, .inr rfl⟩
   ·exact ih (i + 1) _ (by omega) k (by omega)
  ·exact ⟨2, rfl, .inr rfl⟩
theorem manCheck_some (v e : Int) (l : List S50) (k : Nat) (hn : l.length ≤ 1000000) (hk : l.length + 1 < k) : ∃ r, manifest_Check.f k v e l = some r ∧ (r = 0 ∨ r = 2) ∧ (r = 0 → 0 ≤ e ∧ e ≤ 4096 ∧ 1 ≤ v ∧ v ≤ 256 ∧ l.length ≤ 16) := by
 obtain ⟨k, rfl⟩ : ∃ m, k = m + 1 := ⟨k - 1, by omega⟩
 unfold manifest_Check.f parts_Check.f
 by_cases h1 : e < 0
 ·exact ⟨2, by rw [if_pos h1], .inr rfl, fun h => by omega⟩
 ·rw [if_neg h1]
  by_cases h2 : e > 4096
  ·exact ⟨2, by rw [if_pos h2], .inr rfl, fun h => by omega⟩
  ·rw [if_neg h2]
   have ht : parts_Check.j0 (k + 1) v l true = some 2 := by simp only [parts_Check.j0, if_true]
   by_cases h3 : v < 1
   ·exact ⟨2, by rw [if_pos h3, ht]; rfl, .inr rfl, fun h => by omega⟩
   ·rw [if_neg h3]
    by_cases h4 : v > 256
    ·exact ⟨2, by rw [if_pos h4, ht]; rfl, .inr rfl, fun h => by omega⟩
    ·rw [if_neg h4]
     by_cases h5 : (l.length : Int) > 16
     ·exact ⟨2, by rw [decide_eq_true h5, ht]; rfl, .inr rfl, fun h => by omega⟩
     ·rw [decide_eq_false h5]
      simp only [parts_Check.j0, Bool.false_eq_true, if_false]
      obtain ⟨r, hr, h6⟩ := parts_loop l v hn l.length 0 0 (by omega) k (by omega)
      refine ⟨r, ?_, h6, fun _ => by omega⟩
      have hr' : parts_Check.l0 k v 0 l (l.length : Int) 0 = some r := hr
      rw [hr']
      rfl
/-! ### the sum -/
theorem in_some (r c : Int) (k : Nat) (hk : 8 < k) : ∃ v, sums_register_in.f k r c = some v := by
 unfold sums_register_in.f
 have : ∀ (d i : Nat) (x : Int), i + d = 8 → ∀ k, d < k → ∃ v, sums_register_in.l0 k x (i : Int) = some v := by
  intro d
  induction d with
  | zero =>
   intro i x hi k hk
   obtain ⟨k, rfl⟩ : ∃ m, k = m + 1 := ⟨k - 1, by omega⟩
   simp only [sums_register_in.l0]
   exact ⟨x, by rw [if_neg (by omega)]⟩
  | succ d ih =>
   intro i x hi k hk
   obtain ⟨k, rfl⟩ : ∃ m, k = m + 1 := ⟨k - 1, by omega⟩
   simp only [sums_register_in.l0, sums_register_up.f, Option.bind_some]
   rw [if_pos (by omega), show wrap64 ((i : Int) + 1) = ((i + 1 : Nat) : Int) by unfold wrap64; omega]
   exact ih (i + 1) _ (by omega) k (by omega)
 exact this 8 0 _ (by omega) k hk
theorem more_some (s : ByteArray) (hs : s.size ≤ 1000000) : ∀ (d i : Nat) (r : Int), i + d = s.size → ∀ k, d + 10 < k → ∃ v, sums_More.l0 k s r (s.size : Int) (i : Int) = some v := by
 intro d
 induction d with
 | zero =>
  intro i r hi k hk
  obtain ⟨k, rfl⟩ : ∃ m, k = m + 1 := ⟨k - 1, by omega⟩
  simp only [sums_More.l0]
  exact ⟨_, by rw [if_neg (by omega)]⟩
 | succ d ih =>
  intro i r hi k hk
  obtain ⟨k, rfl⟩ : ∃ m, k = m + 1 := ⟨k - 1, by omega⟩
  simp only [sums_More.l0]
  obtain ⟨v, hv⟩ := in_some r (bt s (i : Int)) k (by omega)
  rw [if_pos (by omega), if_pos (by omega), if_pos (by omega), hv, Option.bind_some, show wrap64 ((i : Int) + 1) = ((i + 1 : Nat) : Int) by unfold wrap64; omega]
  exact ih (i + 1) _ (by omega) k (by omega)
/-- A text's sum, as four bytes. -/
def sumB (s : ByteArray) : ByteArray := (manifest_sum.f (s.size + 20) s).getD ⟨#[]⟩
theorem sum_at (s : ByteArray) (hs : s.size ≤ 1000000) (k : Nat) (hk : s.size + 20 ≤ k) : manifest_sum.f k s = some (sumB s) ∧ (sumB s).size = 4 := by
 obtain ⟨v, hv⟩ := more_some s hs s.size 0 (Go.bits .xor .u32 4294967295 0) (by omega) (s.size + 20) (by omega)
 have e : manifest_sum.f (s.size + 20) s = some (strOfNums [v % 256, (v / 256) % 256, (v / 65536) % 256, (v / 16777216) % 256]) := by
  unfold manifest_sum.f sums_Sum.f sums_More.f
  rw [show ((0 : Int)) = ((0 : Nat) : Int) by rfl] at hv ⊢
  rw [hv]
  rfl
 have e2 : sumB s = strOfNums [v % 256, (v / 256) % 256, (v / 65536) % 256, (v / 16777216) % 256] := by unfold sumB; rw [e]; rfl
 refine ⟨?_, by rw [e2, strOfNums_size]; rfl⟩
 rw [e2]
 exact at_rounds (g := fun k => manifest_sum.f k s) (fun k => manifest_sum.mono s k) hk e
/-! ### Encode and Decode -/
def bodyL (v e : Nat) (l : List Int) : List UInt8 := [99, 97, 114] ++ (enc v ++ (enc e ++ listEnc l))
def bodyB (v e : Nat) (l : List Int) : ByteArray := ⟨(bodyL v e l).toArray⟩
theorem manEncode_at (v e : Nat) (ps : List S50) (k : Nat) (hr : manifest_Check.f k v e ps = some 0) (hv : v ≤ 256) (he : e ≤ 4096) (hl : ps.length ≤ 16) (hu : ups 0 (ps.map (·.f1)) = true) (hs : ∀ x ∈ ps.map (·.f1), -9223372036854775808 ≤ x ∧ x ≤ 9223372036854775807) (hk : 1000 < k) :
  manifest_Encode.f k v e ps = some (bodyB v e (ps.map (·.f1)) ++ sumB (bodyB v e (ps.map (·.f1))), 0) ∧ (bodyB v e (ps.map (·.f1))).size ≤ 300 := by
 have hlen : (ps.map (·.f1)).length ≤ 16 := by rw [List.length_map]; exact hl
 have hb : (listEnc (ps.map (·.f1))).length ≤ 10 * (ps.map (·.f1)).length + 10 := by rcases listEnc_le _ hs (by omega) with h | h; exact h; rw [hu] at h; cases h
 have h1 := enc_len10 (u := v) (by omega)
 have h2 := enc_len10 (u := e) (by omega)
 have hjoin : joinL [(⟨#[99, 97, 114]⟩ : ByteArray), encB v, encB e, ⟨(listEnc (ps.map (·.f1))).toArray⟩] = bodyL v e (ps.map (·.f1)) := by
  simp [joinL, bodyL, encB]
 have hsz : (bodyB v e (ps.map (·.f1))).size ≤ 300 := by
  unfold bodyB bodyL
  rw [list_size]
  simp only [List.length_append, List.length_cons, List.length_nil]
  omega
 obtain ⟨hsum, hs4⟩ := sum_at (bodyB v e (ps.map (·.f1))) (by omega) k (by omega)
 refine ⟨?_, hsz⟩
 unfold manifest_Encode.f
 rw [hr, Option.bind_some, if_pos rfl, ends_at ps (by omega) k (by omega), Option.bind_some, Encode_at _ hs (by omega) k (by omega), if_pos hu, Option.bind_some]
 dsimp only
 rw [if_pos rfl, Put_at (by omega) (by omega) k (by omega), Option.bind_some, Put_at (by omega) (by omega) k (by omega), Option.bind_some, Int.toNat_natCast, Int.toNat_natCast]
 unfold manifest_join.f
 rw [hjoin, if_pos (by
  have := hsz
  unfold bodyB at this
  rw [list_size] at this
  simp only [List.length_cons, List.length_nil]
  omega), Option.bind_some]
 rw [show (⟨(bodyL v e (ps.map (·.f1))).toArray⟩ : ByteArray) = bodyB v e (ps.map (·.f1)) from rfl, hsum, Option.bind_some, if_pos (by omega)]
theorem getR_fact {s : ByteArray} {a x n : Int} (h : getR s a = (x, n, true)) : ∃ u r, StandsAt s a u r ∧ x = (u : Int) ∧ u ≤ 9223372036854775807 ∧ n = (s.size : Int) - r.length := by
 by_cases hst : ∃ u r, StandsAt s a u r
 ·obtain ⟨u, r, hst⟩ := hst
  by_cases hu : u ≤ 9223372036854775807
  ·rw [getR_yes hst hu] at h
   simp only [Prod.mk.injEq] at h
   exact ⟨u, r, hst, h.1.symm, hu, h.2.1.symm⟩
  ·rw [getR_big hst (by omega)] at h
   simp at h
 ·rw [getR_no hst] at h
  simp at h
theorem decR_fact {s : ByteArray} {a n : Int} {l : List Int} (h : decR s a = (l, n, 0)) : ∃ r, ListAt s a l r ∧ n = (s.size : Int) - r.length := by
 by_cases hst : ∃ l r, ListAt s a l r
 ·obtain ⟨l', r, hst⟩ := hst
  rw [decR_yes hst] at h
  simp only [Prod.mk.injEq] at h
  obtain ⟨rfl, h2, _⟩ := h
  exact ⟨r, hst, h2.symm⟩
 ·rw [decR_no hst] at h
  simp at h
theorem drop_rest {s : ByteArray} {a : Int} {u : Nat} {r : List UInt8} (h : StandsAt s a u r) {n : Int} (hn : n = (s.size : Int) - r.length) : s.data.toList.drop n.toNat = r := by
 have hl := h.len
 have h0 := h.1
 rw [show n.toNat = a.toNat + (enc u).length by omega, ← List.drop_drop, h.2.2.2, List.drop_left]
theorem body_ex : bodyB 10 300 [4, 10] = ⟨#[99, 97, 114, 10, 172, 2, 2, 4, 5]⟩ := by
 have h : bodyL 10 300 [4, 10] = [99, 97, 114, 10, 172, 2, 2, 4, 5] := by
  show [99, 97, 114] ++ (enc 10 ++ (enc 300 ++ (enc 2 ++ (enc 4 ++ (enc 5 ++ []))))) = _
  rw [enc_big (u := 300) (by omega), enc_small (u := 10) (by omega), enc_small (u := 2) (by omega), enc_small (u := 4) (by omega), enc_small (u := 5) (by omega)]
  decide
 unfold bodyB
 rw [h]
theorem sum_ex0 : manifest_sum.f 29 (⟨#[99, 97, 114, 10, 172, 2, 2, 4, 5]⟩ : ByteArray) = some ⟨#[119, 180, 150, 77]⟩ := by kernel_rfl
theorem sum_ex : sumB (⟨#[99, 97, 114, 10, 172, 2, 2, 4, 5]⟩ : ByteArray) = ⟨#[119, 180, 150, 77]⟩ := by
 unfold sumB
 rw [show (⟨#[99, 97, 114, 10, 172, 2, 2, 4, 5]⟩ : ByteArray).size + 20 = 29 from rfl, sum_ex0]
 rfl
theorem check_ex : manifest_Check.f 30 10 300 [⟨0, 4⟩, ⟨4, 10⟩] = some 0 := by decide +kernel
theorem lit_ex : (⟨#[99, 97, 114, 10, 172, 2, 2, 4, 5]⟩ : ByteArray) ++ ⟨#[119, 180, 150, 77]⟩ = ⟨#[99, 97, 114, 10, 172, 2, 2, 4, 5, 119, 180, 150, 77]⟩ := by
 apply ByteArray.ext
 rw [ByteArray.data_append]
 rfl
theorem does_ex : carousellaw11_does.j0 60 (⟨#[99, 97, 114, 10, 172, 2, 2, 4, 5, 119, 180, 150, 77]⟩ : ByteArray) false 10 300 [⟨0, 4⟩, ⟨4, 10⟩] = some true := by kernel_rfl
theorem head_ex : ((⟨#[99, 97, 114, 10, 172, 2, 2, 4, 5, 119, 180, 150, 77]⟩ : ByteArray).extract 0 ((wrap64 ((13 : Int) - 4)) : Int).toNat).toList = ([99, 97, 114, 10, 172, 2, 2, 4, 5] : List UInt8) := by
 rw [extract_toList]
 decide +kernel
theorem does_at {k : Nat} (hk : 1000 < k) : carousellaw11_does.f k = some true := by
 have hc : manifest_Check.f k 10 300 [⟨0, 4⟩, ⟨4, 10⟩] = some 0 := at_rounds (g := fun k => manifest_Check.f k 10 300 [⟨0, 4⟩, ⟨4, 10⟩]) (fun k => manifest_Check.mono _ _ _ k) (show 30 ≤ k by omega) check_ex
 have hE := (manEncode_at 10 300 [⟨0, 4⟩, ⟨4, 10⟩] k hc (by omega) (by omega) (by decide) (by decide) (by decide) hk).1
 rw [show ([⟨0, 4⟩, ⟨4, 10⟩] : List S50).map (·.f1) = [4, 10] from rfl, body_ex, sum_ex, lit_ex] at hE
 have hE' : manifest_Encode.f k 10 300 [⟨0, 4⟩, ⟨4, 10⟩] = some (⟨#[99, 97, 114, 10, 172, 2, 2, 4, 5, 119, 180, 150, 77]⟩, 0) := hE
 have hj : carousellaw11_does.j0 k (⟨#[99, 97, 114, 10, 172, 2, 2, 4, 5, 119, 180, 150, 77]⟩ : ByteArray) false 10 300 [⟨0, 4⟩, ⟨4, 10⟩] = some true :=
  at_rounds (g := fun k => carousellaw11_does.j0 k (⟨#[99, 97, 114, 10, 172, 2, 2, 4, 5, 119, 180, 150, 77]⟩ : ByteArray) false 10 300 [⟨0, 4⟩, ⟨4, 10⟩]) (fun k => carousellaw11_does.mono_l k _ _ _ _ _) (show 60 ≤ k by omega) does_ex
 unfold carousellaw11_does.f
 rw [Option.bind_some, hE', Option.bind_some]
 dsimp only
 rw [if_pos rfl, show (((⟨#[99, 97, 114, 10, 172, 2, 2, 4, 5, 119, 180, 150, 77]⟩ : ByteArray).size : Nat) : Int) = 13 from rfl, if_neg (by omega), if_pos (by decide +kernel), if_pos (by decide +kernel), head_ex, bne_self_eq_false, hj]
theorem manDecode_yes (v e : Nat) (l : List Int) (hb : (bodyB v e l).size ≤ 2000) (hv : v ≤ 256) (he : e ≤ 4096) (hu : ups 0 l = true) (hs : Small l) (k : Nat) (hk : 10000 < k) (hchk : manifest_Check.f k v e (betw 0 l) = some 0) :
  manifest_Decode.f k (bodyB v e l ++ sumB (bodyB v e l)) = some ((v : Int), (e : Int), betw 0 l, 0) := by
 obtain ⟨hsum, hs4⟩ := sum_at (bodyB v e l) (by omega) k (by omega)
 have hbl : (bodyB v e l).size = 3 + ((enc v).length + ((enc e).length + (listEnc l).length)) := by
  unfold bodyB bodyL
  rw [list_size, List.length_append, List.length_append, List.length_append]
  rfl
 have hsz : (bodyB v e l ++ sumB (bodyB v e l)).size = (bodyB v e l).size + 4 := by rw [ByteArray.size_append, hs4]
 have hd : (bodyB v e l ++ sumB (bodyB v e l)).data.toList = bodyL v e l ++ (sumB (bodyB v e l)).data.toList := by
  rw [ByteArray.data_append, Array.toList_append]
  rfl
 have hbd : (bodyL v e l).length = (bodyB v e l).size := (list_size _).symm
 have hll : l.length ≤ 2000 := by
  have := body_len l 0
  have : (listEnc l).length = (enc l.length).length + (body 0 l).length := by rw [listEnc, List.length_append]
  omega
 have hex : (bodyB v e l ++ sumB (bodyB v e l)).extract 0 (bodyB v e l).size = bodyB v e l := by
  apply ByteArray.ext
  apply Array.toList_inj.1
  rw [ByteArray.data_extract, Array.toList_extract, List.extract_eq_take_drop, List.drop_zero, Nat.sub_zero, hd, ← hbd, List.take_left]
  rfl
 have s1 : StandsAt (bodyB v e l) 3 v (enc e ++ listEnc l) := ⟨by omega, by omega, by omega, by
  show (bodyL v e l).drop 3 = _
  rw [bodyL]; rfl⟩
 have g1 := getR_yes s1 (by omega)
 have n1 := s1.len
 have s2 : StandsAt (bodyB v e l) (3 + (enc v).length : Int) e (listEnc l) := ⟨by omega, by omega, by omega, by
  show (bodyL v e l).drop _ = _
  rw [bodyL, show (3 + (enc v).length : Int).toNat = ([99, 97, 114] : List UInt8).length + (enc v).length by show _ = 3 + _; omega, ← List.append_assoc, ← List.length_append, List.drop_left]⟩
 have g2 := getR_yes s2 (by omega)
 have n2 := s2.len
 have s3 : ListAt (bodyB v e l) (3 + (enc v).length + (enc e).length : Int) l [] := ⟨by omega, by omega, hu, hs, by
  show (bodyL v e l).drop _ = _
  rw [bodyL, show (3 + (enc v).length + (enc e).length : Int).toNat = ([99, 97, 114] : List UInt8).length + ((enc v).length + (enc e).length) by show _ = 3 + _; omega, List.append_nil]
  rw [← List.append_assoc (enc v), ← List.append_assoc, ← List.length_append, ← List.length_append, List.drop_left]⟩
 have g3 := decR_yes s3
 unfold manifest_Decode.f manifest_sealed.f
 rw [hsz, show wrap64 (((bodyB v e l).size + 4 : Nat) - 4 : Int) = ((bodyB v e l).size : Int) by unfold wrap64; omega, if_pos (by omega), if_pos (by omega), if_pos (by omega), if_pos (by
   rw [extract_toList, hd, List.drop_zero]
   show ((bodyL v e l) ++ _).take 3 = _
   rw [bodyL]; rfl), if_pos (by omega), if_pos (by omega), Int.toNat_natCast, hex, hsum, Option.bind_some, Option.bind_some]
 rw [if_pos (by
   rw [extract_toList, hd, Lib.toList_data, ← hbd, List.drop_left, beq_iff_eq]
   exact List.take_of_length_le (by rw [data_length, hs4]; omega)), if_pos (by omega), if_pos (by omega), Get_at _ (by omega) 3 k (by omega), g1, Option.bind_some]
 dsimp only
 rw [n1, Get_at _ (by omega) _ k (by omega), g2, Option.bind_some]
 dsimp only
 rw [n2, Decode_at _ (by omega) _ k (by omega), g3, Option.bind_some]
 dsimp only
 rw [between_at l (by omega) k (by omega), Option.bind_some, if_pos rfl, if_pos rfl, if_pos rfl, if_pos (by simp), hchk, Option.bind_some, if_pos rfl]
theorem S50_ext {a b : S50} (h0 : a.f0 = b.f0) (h1 : a.f1 = b.f1) : a = b := by cases a; cases b; simp only at h0 h1; rw [h0, h1]
open Classical in
theorem same9_loop (l m : List S50) (hl : l.length = m.length) (hn : l.length ≤ 1000000) : ∀ (d j : Nat), j + d = l.length → ∀ k, d < k → carousellaw09_Same.l0 k l m (j : Int) = some (decide (l.drop j = m.drop j)) := by
 intro d
 induction d with
 | zero =>
  intro j hj k hk
  obtain ⟨k, rfl⟩ : ∃ m, k = m + 1 := ⟨k - 1, by omega⟩
  simp only [carousellaw09_Same.l0]
  rw [if_neg (by omega), List.drop_of_length_le (by omega), List.drop_of_length_le (by omega), decide_eq_true rfl]
 | succ d ih =>
  intro j hj k hk
  obtain ⟨k, rfl⟩ : ∃ m, k = m + 1 := ⟨k - 1, by omega⟩
  have hlt : j < l.length := by omega
  have hlt' : j < m.length := by omega
  have hr : rd_T50 l (j : Int) = l[j] := by simp [rd_T50, List.getD, hlt]
  have hr' : rd_T50 m (j : Int) = m[j] := by simp [rd_T50, List.getD, hlt']
  simp only [carousellaw09_Same.l0]
  rw [if_pos (by omega), if_pos (by omega), if_pos (by omega), hr, hr', List.drop_eq_getElem_cons hlt, List.drop_eq_getElem_cons hlt']
  by_cases h : l[j] = m[j]
  ·rw [if_neg (by rw [h]; simp), show wrap64 ((j : Int) + 1) = ((j + 1 : Nat) : Int) by unfold wrap64; omega, ih (j + 1) (by omega) k (by omega)]
   congr 1
   exact decide_eq_decide.2 (by rw [List.cons.injEq]; exact ⟨fun x => ⟨h, x⟩, fun x => x.2⟩)
  ·rw [if_pos ?_, decide_eq_false (by rw [List.cons.injEq]; exact fun x => h x.1)]
   by_cases h0 : l[j].f0 = m[j].f0
   ·have h1 : ¬ l[j].f1 = m[j].f1 := fun e => h (S50_ext h0 e)
    simp [h0, h1]
   ·simp [h0]
open Classical in
theorem same9_at (l m : List S50) (hn : l.length ≤ 1000000) (k : Nat) (hk : l.length < k) : carousellaw09_Same.f k l m = some (decide (l = m)) := by
 unfold carousellaw09_Same.f
 by_cases h : l.length = m.length
 ·rw [if_pos (by omega)]
  have := same9_loop l m h hn l.length 0 (by omega) k hk
  simpa using this
 ·rw [if_neg (by omega), decide_eq_false (fun e => h (by rw [e]))]
open Classical in
theorem same11_at (v e : Int) (l : List S50) (v' e' : Int) (m : List S50) (hn : l.length ≤ 1000000) (k : Nat) (hk : l.length < k) : carousellaw11_Same.f k v e l v' e' m = some (decide (v = v' ∧ e = e' ∧ l = m)) := by
 unfold carousellaw11_Same.f
 by_cases h1 : v = v'
 ·by_cases h2 : e = e'
  ·rw [if_pos h1, if_pos h2, same9_at l m hn k hk, Option.bind_some]
   congr 1
   exact decide_eq_decide.2 ⟨fun h => ⟨h1, h2, h⟩, fun h => h.2.2⟩
  ·rw [if_pos h1, if_neg h2, decide_eq_false (fun h => h2 h.2.1)]
 ·rw [if_neg h1, decide_eq_false (fun h => h1 h.1)]
theorem same11_self (v e : Int) (l : List S50) (hn : l.length ≤ 1000000) (k : Nat) (hk : l.length < k) : carousellaw11_Same.f k v e l v e l = some true := by
 classical
 rw [same11_at v e l v e l hn k hk, decide_eq_true ⟨rfl, rfl, rfl⟩]
theorem body_same {v e v' e' : Nat} {l l' : List Int} (hu : ups 0 l = true) (hu' : ups 0 l' = true) (hs : (bodyB v e l).size ≤ 300) (hs' : (bodyB v' e' l').size ≤ 300)
  (h : (bodyB v e l ++ sumB (bodyB v e l)).toList = (bodyB v' e' l' ++ sumB (bodyB v' e' l')).toList) : v = v' ∧ e = e' ∧ l = l' := by
 obtain ⟨_, h4⟩ := sum_at (bodyB v e l) (by omega) 100000 (by omega)
 obtain ⟨_, h4'⟩ := sum_at (bodyB v' e' l') (by omega) 100000 (by omega)
 rw [Lib.toList_data, Lib.toList_data, ByteArray.data_append, ByteArray.data_append, Array.toList_append, Array.toList_append] at h
 have hl := (List.append_inj' h (by rw [data_length, data_length, h4, h4'])).1
 have hl' : bodyL v e l = bodyL v' e' l' := hl
 unfold bodyL at hl'
 have h1 := (List.append_inj hl' rfl).2
 obtain ⟨e1, h2⟩ := enc_free _ _ _ _ h1
 obtain ⟨e2, h3⟩ := enc_free _ _ _ _ h2
 obtain ⟨e3, _⟩ := listEnc_free (r := []) (q := []) hu hu' (by simpa using h3)
 exact ⟨e1, e2, e3⟩
theorem manDecode_at (s : ByteArray) (hs : s.size ≤ 2100) (k : Nat) (hk : 10000 < k) : ∃ res, manifest_Decode.f k s = some res ∧
  (res = (0, 0, [], 10) ∨ ∃ (v e : Nat) (l : List Int), res = ((v : Int), (e : Int), betw 0 l, 0) ∧ manifest_Check.f k v e (betw 0 l) = some 0 ∧ ups 0 l = true ∧ Small l ∧ s = bodyB v e l ++ sumB (bodyB v e l)) := by
 unfold manifest_Decode.f manifest_sealed.f
 rw [show wrap64 ((s.size : Int) - 4) = (s.size : Int) - 4 by unfold wrap64; omega]
 by_cases h7 : (s.size : Int) - 4 ≥ 3
 ·rw [if_pos h7, if_pos (by omega), if_pos (by omega)]
  by_cases hcar : (s.extract 0 3).toList = ([99, 97, 114] : List UInt8)
  ·rw [if_pos hcar, if_pos (by omega), if_pos (by omega)]
   obtain ⟨N, hN⟩ : ∃ N : Nat, (s.size : Int) - 4 = N := ⟨s.size - 4, by omega⟩
   rw [hN, Int.toNat_natCast]
   have hbs : (s.extract 0 N).size = N := by rw [ByteArray.size_extract]; omega
   obtain ⟨hsum, hs4⟩ := sum_at (s.extract 0 N) (by omega) k (by omega)
   rw [hsum, Option.bind_some, Option.bind_some]
   by_cases hseal : ((s.extract N s.size).toList == (sumB (s.extract 0 N)).toList) = true
   ·rw [if_pos hseal, if_pos (by omega), if_pos (by omega), Get_at _ (by omega) 3 k (by omega), Option.bind_some]
    generalize hb : s.extract 0 N = b at *
    obtain ⟨⟨x1, n1, o1⟩, e1⟩ : ∃ r, getR b 3 = r := ⟨_, rfl⟩
    rw [e1]
    dsimp only
    rw [Get_at _ (by omega) n1 k (by omega), Option.bind_some]
    obtain ⟨⟨x2, n2, o2⟩, e2⟩ : ∃ r, getR b n1 = r := ⟨_, rfl⟩
    rw [e2]
    dsimp only
    rw [Decode_at _ (by omega) n2 k (by omega), Option.bind_some]
    have hsm := decR_small b (by omega) n2
    obtain ⟨⟨l, n3, er⟩, e3⟩ : ∃ r, decR b n2 = r := ⟨_, rfl⟩
    rw [e3] at hsm ⊢
    dsimp only at hsm ⊢
    rw [between_at l (by omega) k (by omega), Option.bind_some]
    by_cases c1 : o1 = true
    ·rw [if_pos c1]
     by_cases c2 : o2 = true
     ·rw [if_pos c2]
      by_cases c3 : er = 0
      ·rw [if_pos c3]
       by_cases c4 : n3 = (b.size : Int)
       ·rw [if_pos c4]
        subst c1 c2 c3
        obtain ⟨v, r1, st1, rfl, hv, hn1⟩ := getR_fact e1
        obtain ⟨e, r2, st2, rfl, he, hn2⟩ := getR_fact e2
        obtain ⟨r3, st3, hn3⟩ := decR_fact e3
        obtain ⟨r, hr, hr2, hr3⟩ := manCheck_some v e (betw 0 l) k (by rw [betw_len]; omega) (by rw [betw_len]; omega)
        rw [hr, Option.bind_some]
        by_cases c5 : r = 0
        ·rw [if_pos c5]
         subst c5
         refine ⟨_, rfl, .inr ⟨v, e, l, rfl, hr, st3.2.2.1, st3.2.2.2.1, ?_⟩⟩
         have d1 := drop_rest st1 hn1
         have d2 := drop_rest st2 hn2
         have q2 := st2.2.2.2
         rw [d1] at q2
         have q3 := st3.2.2.2.2
         rw [d2] at q3
         have hr30 : r3 = [] := List.length_eq_zero_iff.mp (by omega)
         have hbody : b.data.toList = bodyL v e l := by
          have h3 := st1.2.2.2
          rw [q2, q3, hr30, List.append_nil] at h3
          have ht : b.data.toList.take 3 = [99, 97, 114] := by
           rw [← hb, ByteArray.data_extract, Array.toList_extract, List.extract_eq_take_drop, List.drop_zero, Nat.sub_zero, List.take_take, Nat.min_eq_left (by omega), ← hcar, extract_toList, List.drop_zero]
          rw [bodyL, ← ht, ← h3]
          exact (List.take_append_drop 3 _).symm
         have hbB : b = bodyB v e l := by
          apply ByteArray.ext
          apply Array.toList_inj.1
          rw [hbody]
          rfl
         rw [← hbB]
         apply ByteArray.ext
         apply Array.toList_inj.1
         rw [ByteArray.data_append, Array.toList_append]
         have hq : (s.extract N s.size).toList = (sumB b).toList := by simpa using hseal
         rw [Lib.toList_data, Lib.toList_data, ByteArray.data_extract, Array.toList_extract] at hq
         rw [← hq, ← hb, ByteArray.data_extract, Array.toList_extract]
         simp only [List.extract_eq_take_drop, List.drop_zero, Nat.sub_zero]
         rw [List.take_of_length_le (l := s.data.toList.drop N) (by rw [List.length_drop, data_length]; omega)]
         exact (List.take_append_drop N _).symm
        ·rw [if_neg c5]
         exact ⟨_, rfl, .inl rfl⟩
       ·rw [if_neg c4]
        exact ⟨_, rfl, .inl rfl⟩
      ·rw [if_neg c3]
       exact ⟨_, rfl, .inl rfl⟩
     ·rw [if_neg c2]
      exact ⟨_, rfl, .inl rfl⟩
    ·rw [if_neg c1]
     exact ⟨_, rfl, .inl rfl⟩
   ·rw [if_neg hseal]
    exact ⟨_, rfl, .inl rfl⟩
  ·rw [if_neg hcar, Option.bind_some, if_neg (by simp)]
   exact ⟨_, rfl, .inl rfl⟩
 ·rw [if_neg h7, Option.bind_some, if_neg (by simp)]
  exact ⟨_, rfl, .inl rfl⟩
/-! ### the register: the program's and the document's -/
theorem wrap_u32 (n : Int) : IntKind.u32.wrap n = n % 4294967296 := by simp [IntKind.wrap, IntKind.bits, IntKind.signed]
theorem p32 : (2 : Int) ^ 32 = 4294967296 := by decide
theorem wraps_u32 (n : Int) (h₀ : 0 ≤ n) (h₁ : n < 2 ^ 32) : IntKind.u32.wrap n = n := by rw [wrap_u32]; have := p32; omega
theorem xor32_nat (a b : Nat) (ha : a < 4294967296) (hb : b < 4294967296) : bits .xor .u32 (a : Int) (b : Int) = ((a ^^^ b : Nat) : Int) := by
 have hx : a ^^^ b < 2 ^ 32 := Nat.xor_lt_two_pow (by omega) (by omega)
 have h1 : (BitVec.ofInt 32 (a : Int)).toNat = a := by
  rw [BitVec.ofInt_natCast, BitVec.toNat_ofNat]; exact Nat.mod_eq_of_lt (by omega)
 have h2 : (BitVec.ofInt 32 (b : Int)).toNat = b := by
  rw [BitVec.ofInt_natCast, BitVec.toNat_ofNat]; exact Nat.mod_eq_of_lt (by omega)
 show IntKind.u32.wrap ((BitVec.ofInt 32 (a : Int) ^^^ BitVec.ofInt 32 (b : Int)).toNat : Int) = _
 rw [BitVec.toNat_xor, h1, h2, wrap_u32]
 omega
theorem xor32_bound (a b : Int) : 0 ≤ bits .xor .u32 a b ∧ bits .xor .u32 a b < 4294967296 := by
 show 0 ≤ IntKind.u32.wrap ((BitVec.ofInt 32 a ^^^ BitVec.ofInt 32 b).toNat : Int) ∧ IntKind.u32.wrap ((BitVec.ofInt 32 a ^^^ BitVec.ofInt 32 b).toNat : Int) < 4294967296
 rw [wrap_u32]
 omega
theorem and1_32 (x : Int) (h0 : 0 ≤ x) (h1 : x < 4294967296) : bits .and .u32 x 1 = x % 2 :=
 bits_mask .u32 32 (by decide) wraps_u32 1 (by decide) x h0 (by rw [p32]; exact h1)
/-- A register times x. -/
def upI (x : Int) : Int := bits .xor .u32 (x / 2) ((3988292384 * (bits .and .u32 x 1)) % 4294967296)
def rep : Nat → Int → Int
 | 0, x => x
 | d + 1, x => rep d (upI x)
def runL : Int → List UInt8 → Int
 | r, [] => r
 | r, c :: l => runL (rep 8 (bits .xor .u32 r ((c.toNat : Int) % 4294967296))) l
theorem upI_bound (x : Int) : 0 ≤ upI x ∧ upI x < 4294967296 := xor32_bound _ _
theorem upI_ref (x : Int) (h0 : 0 ≤ x) (h1 : x < 4294967296) : upI x = if bits .and .u32 x 1 = 1 then bits .xor .u32 (x / 2) 3988292384 else x / 2 := by
 unfold upI
 rw [and1_32 x h0 h1]
 by_cases h : x % 2 = 1
 ·rw [if_pos h, h]; rfl
 ·rw [if_neg h, show x % 2 = 0 by omega]
  obtain ⟨a, ha⟩ : ∃ a : Nat, x / 2 = a := ⟨(x / 2).toNat, by omega⟩
  rw [ha, show ((3988292384 * 0 : Int)) % 4294967296 = ((0 : Nat) : Int) by decide, xor32_nat a 0 (by omega) (by omega)]
  simp
theorem in_at (r c : Int) (k : Nat) (hk : 8 < k) : sums_register_in.f k r c = some (rep 8 (bits .xor .u32 r (c % 4294967296))) := by
 unfold sums_register_in.f
 have : ∀ (d i : Nat) (x : Int), i + d = 8 → ∀ k, d < k → sums_register_in.l0 k x (i : Int) = some (rep d x) := by
  intro d
  induction d with
  | zero =>
   intro i x hi k hk
   obtain ⟨k, rfl⟩ : ∃ m, k = m + 1 := ⟨k - 1, by omega⟩
   simp only [sums_register_in.l0]
   rw [if_neg (by omega)]
   rfl
  | succ d ih =>
   intro i x hi k hk
   obtain ⟨k, rfl⟩ : ∃ m, k = m + 1 := ⟨k - 1, by omega⟩
   simp only [sums_register_in.l0, sums_register_up.f, Option.bind_some]
   rw [if_pos (by omega), show wrap64 ((i : Int) + 1) = ((i + 1 : Nat) : Int) by unfold wrap64; omega]
   exact ih (i + 1) _ (by omega) k (by omega)
 exact this 8 0 _ (by omega) k hk
theorem more_at (s : ByteArray) (hs : s.size ≤ 1000000) : ∀ (d i : Nat) (r : Int), i + d = s.size → ∀ k, d + 10 < k → sums_More.l0 k s r (s.size : Int) (i : Int) = some (bits .xor .u32 4294967295 (runL r (s.data.toList.drop i))) := by
 intro d
 induction d with
 | zero =>
  intro i r hi k hk
  obtain ⟨k, rfl⟩ : ∃ m, k = m + 1 := ⟨k - 1, by omega⟩
  simp only [sums_More.l0]
  rw [if_neg (by omega), List.drop_of_length_le (by rw [data_length]; omega)]
  rfl
 | succ d ih =>
  intro i r hi k hk
  obtain ⟨k, rfl⟩ : ∃ m, k = m + 1 := ⟨k - 1, by omega⟩
  obtain ⟨c, hc, hb, hd⟩ := byte_at s i (by omega)
  simp only [sums_More.l0]
  rw [if_pos (by omega), if_pos (by omega), if_pos (by omega), hb, in_at _ _ k (by omega), Option.bind_some, show wrap64 ((i : Int) + 1) = ((i + 1 : Nat) : Int) by unfold wrap64; omega, ih (i + 1) _ (by omega) k (by omega), hd]
  simp only [runL, u8_toNat hc]
/-- A text's sum. -/
def sumN (s : ByteArray) : Int := bits .xor .u32 4294967295 (runL 4294967295 s.data.toList)
theorem sumB_eq (s : ByteArray) (hs : s.size ≤ 1000000) : sumB s = strOfNums [sumN s % 256, (sumN s / 256) % 256, (sumN s / 65536) % 256, (sumN s / 16777216) % 256] := by
 have h := more_at s hs s.size 0 4294967295 (by omega) (s.size + 20) (by omega)
 have e : manifest_sum.f (s.size + 20) s = some (strOfNums [sumN s % 256, (sumN s / 256) % 256, (sumN s / 65536) % 256, (sumN s / 16777216) % 256]) := by
  unfold manifest_sum.f sums_Sum.f sums_More.f
  rw [show Go.bits .xor .u32 4294967295 0 = 4294967295 by decide, show ((0 : Int)) = ((0 : Nat) : Int) by rfl, h]
  rfl
 unfold sumB
 rw [e]
 rfl
theorem goes1 (s : ByteArray) (j : Int) : ∀ (d i : Nat) (x : Int), i + d = 8 → 0 ≤ x → x < 4294967296 → ∀ k, carouselref03_Goes.l1 (k + d + 1) x s j (i : Int) = carouselref03_Goes.l0 k (rep d x) s (wrap64 (j + 1)) := by
 intro d
 induction d with
 | zero =>
  intro i x hi h0 h1 k
  simp only [carouselref03_Goes.l1]
  rw [if_neg (by omega)]
  rfl
 | succ d ih =>
  intro i x hi h0 h1 k
  have e : ∀ y : Int, upI x = y → carouselref03_Goes.l1 (k + d + 1) y s j (wrap64 ((i : Int) + 1)) = carouselref03_Goes.l0 k (rep (d + 1) x) s (wrap64 (j + 1)) := by
   intro y hy
   rw [show wrap64 ((i : Int) + 1) = ((i + 1 : Nat) : Int) by unfold wrap64; omega, ← hy, ih (i + 1) _ (by omega) (upI_bound x).1 (upI_bound x).2 k]
   rfl
  have hu := upI_ref x h0 h1
  rw [show k + (d + 1) + 1 = (k + d + 1) + 1 by omega]
  simp only [carouselref03_Goes.l1]
  rw [if_pos (by omega)]
  by_cases h : bits .and .u32 x 1 = 1
  ·rw [if_pos h] at hu ⊢
   exact e _ hu
  ·rw [if_neg h] at hu ⊢
   exact e _ hu
theorem goes_at (s : ByteArray) (hs : s.size ≤ 1000000) : ∀ (d i : Nat) (r : Int), i + d = s.size → ∀ k, 10 * d < k → carouselref03_Goes.l0 k r s (i : Int) = some (runL r (s.data.toList.drop i)) := by
 intro d
 induction d with
 | zero =>
  intro i r hi k hk
  obtain ⟨k, rfl⟩ : ∃ m, k = m + 1 := ⟨k - 1, by omega⟩
  simp only [carouselref03_Goes.l0]
  rw [if_neg (by omega), List.drop_of_length_le (by rw [data_length]; omega)]
  rfl
 | succ d ih =>
  intro i r hi k hk
  obtain ⟨k, rfl⟩ : ∃ m, k = m + 8 + 1 + 1 := ⟨k - 10, by omega⟩
  obtain ⟨c, hc, hb, hd⟩ := byte_at s i (by omega)
  simp only [carouselref03_Goes.l0]
  rw [if_pos (by omega), if_pos (by omega), hb, show ((0 : Int)) = ((0 : Nat) : Int) by rfl, goes1 s i 8 0 _ (by omega) (xor32_bound _ _).1 (xor32_bound _ _).2 k, show wrap64 ((i : Int) + 1) = ((i + 1 : Nat) : Int) by unfold wrap64; omega,
   ih (i + 1) _ (by omega) k (by omega), hd]
  simp only [runL, u8_toNat hc]
theorem refSum_at (s : ByteArray) (hs : s.size ≤ 1000000) (k : Nat) (hk : 10 * s.size < k) : carouselref03_Sum.f k s = some (sumN s) := by
 unfold carouselref03_Sum.f carouselref03_Goes.f
 have h := goes_at s hs s.size 0 4294967295 (by omega) k hk
 rw [show ((0 : Int)) = ((0 : Nat) : Int) by rfl, h]
 rfl
/-! ### Check, by both -/
def chain : Int → List S50 → Int → Bool
 | a, [], n => a == n
 | a, p :: l, n => p.f0 == a && decide (a < p.f1) && chain p.f1 l n
theorem chain_cons {a n : Int} {p : S50} {l : List S50} : chain a (p :: l) n = true ↔ p.f0 = a ∧ a < p.f1 ∧ chain p.f1 l n = true := by simp [chain, and_assoc]
theorem partsCheck_loop (l : List S50) (n : Int) (hn : l.length ≤ 1000000) : ∀ (d i : Nat) (a : Int), i + d = l.length → ∀ k, d < k → parts_Check.l0 k n a l (l.length : Int) (i : Int) = some (if chain a (l.drop i) n = true then 0 else 2) := by
 intro d
 induction d with
 | zero =>
  intro i a hi k hk
  obtain ⟨k, rfl⟩ : ∃ m, k = m + 1 := ⟨k - 1, by omega⟩
  simp only [parts_Check.l0]
  rw [if_neg (by omega), List.drop_of_length_le (by omega)]
  by_cases h : a = n
  ·rw [if_pos h, if_pos (by simp [chain, h])]
  ·rw [if_neg h, if_neg (by simp [chain, h])]
 | succ d ih =>
  intro i a hi k hk
  obtain ⟨k, rfl⟩ : ∃ m, k = m + 1 := ⟨k - 1, by omega⟩
  have hlt : i < l.length := by omega
  have hr : rd_T50 l (i : Int) = l[i] := by simp [rd_T50, List.getD, hlt]
  simp only [parts_Check.l0]
  rw [if_pos (by omega), if_pos (by omega), if_pos (by omega), hr, show wrap64 ((i : Int) + 1) = ((i + 1 : Nat) : Int) by unfold wrap64; omega, List.drop_eq_getElem_cons hlt]
  by_cases h1 : l[i].f0 = a
  ·rw [if_pos h1]
   by_cases h2 : l[i].f1 ≤ a
   ·rw [if_pos h2, if_neg (by rw [chain_cons]; omega)]
   ·rw [if_neg h2, ih (i + 1) _ (by omega) k (by omega)]
    congr 2
    rw [eq_iff_iff, chain_cons]
    exact ⟨fun h => ⟨h1, by omega, h⟩, fun h => h.2.2⟩
  ·rw [if_neg h1, if_neg (by rw [chain_cons]; exact fun h => h1 h.1)]
def OkG (v e : Int) (l : List S50) : Prop := 0 ≤ e ∧ e ≤ 4096 ∧ 1 ≤ v ∧ v ≤ 256 ∧ l.length ≤ 16 ∧ chain 0 l v = true
open Classical in
theorem manCheck_at (v e : Int) (l : List S50) (k : Nat) (hn : l.length ≤ 1000000) (hk : l.length + 1 < k) : manifest_Check.f k v e l = some (if OkG v e l then 0 else 2) := by
 obtain ⟨k, rfl⟩ : ∃ m, k = m + 1 := ⟨k - 1, by omega⟩
 unfold manifest_Check.f parts_Check.f
 have ht : parts_Check.j0 (k + 1) v l true = some 2 := by simp only [parts_Check.j0, if_true]
 by_cases h1 : e < 0
 ·rw [if_pos h1, if_neg (fun h => by have := h.1; omega)]
 ·rw [if_neg h1]
  by_cases h2 : e > 4096
  ·rw [if_pos h2, if_neg (fun h => by have := h.2.1; omega)]
  ·rw [if_neg h2]
   by_cases h3 : v < 1
   ·rw [if_pos h3, ht, if_neg (fun h => by have := h.2.2.1; omega)]; rfl
   ·rw [if_neg h3]
    by_cases h4 : v > 256
    ·rw [if_pos h4, ht, if_neg (fun h => by have := h.2.2.2.1; omega)]; rfl
    ·rw [if_neg h4]
     by_cases h5 : (l.length : Int) > 16
     ·rw [decide_eq_true h5, ht, if_neg (fun h => by have := h.2.2.2.2.1; omega)]; rfl
     ·rw [decide_eq_false h5]
      simp only [parts_Check.j0, Bool.false_eq_true, if_false]
      have hr : parts_Check.l0 k v 0 l (l.length : Int) 0 = some (if chain 0 (l.drop 0) v = true then 0 else 2) := partsCheck_loop l v hn l.length 0 0 (by omega) k (by omega)
      rw [hr, List.drop_zero, Option.bind_some]
      congr 1
      by_cases h6 : chain 0 l v = true
      ·rw [if_pos h6, if_pos ⟨by omega, by omega, by omega, by omega, by omega, h6⟩]
      ·rw [if_neg h6, if_neg (fun h => h6 h.2.2.2.2.2)]
def lnk : Int → List S50 → Bool
 | _, [] => true
 | a, p :: l => p.f0 == a && decide (p.f0 < p.f1) && lnk p.f1 l
def lastEnd : Int → List S50 → Int
 | a, [] => a
 | _, p :: l => lastEnd p.f1 l
theorem lnk_cons {a : Int} {p : S50} {l : List S50} : lnk a (p :: l) = true ↔ p.f0 = a ∧ p.f0 < p.f1 ∧ lnk p.f1 l = true := by simp [lnk, and_assoc]
theorem chain_iff (l : List S50) : ∀ (a n : Int), chain a l n = true ↔ lnk a l = true ∧ lastEnd a l = n := by
 induction l with
 | nil => intro a n; simp [chain, lnk, lastEnd]
 | cons p l ih =>
  intro a n
  rw [chain_cons, lnk_cons, ih]
  constructor
  ·rintro ⟨h1, h2, h3, h4⟩; exact ⟨⟨h1, by omega, h3⟩, h4⟩
  ·rintro ⟨⟨h1, h2, h3⟩, h4⟩; exact ⟨h1, by omega, h3, h4⟩
theorem lastEnd_rd (l : List S50) : ∀ a, l ≠ [] → lastEnd a l = (rd_T50 l ((l.length - 1 : Nat) : Int)).f1 := by
 induction l with
 | nil => intro a h; exact absurd rfl h
 | cons p l ih =>
  intro a _
  cases l with
  | nil => simp [lastEnd, rd_T50]
  | cons q l =>
   have := ih p.f1 (by simp)
   simp only [lastEnd] at this ⊢
   rw [this]
   simp [rd_T50, List.getD]
theorem ref09_loop (l : List S50) (hn : l.length ≤ 1000000) : ∀ (d i : Nat) (a : Int), i + d = l.length → (i = 0 → a = (rd_T50 l 0).f0) → (0 < i → a = (rd_T50 l ((i - 1 : Nat) : Int)).f1) → ∀ k, d < k → carouselref09_Check.l0 k l (i : Int) = some (if lnk a (l.drop i) = true then 0 else 2) := by
 intro d
 induction d with
 | zero =>
  intro i a hi _ _ k hk
  obtain ⟨k, rfl⟩ : ∃ m, k = m + 1 := ⟨k - 1, by omega⟩
  simp only [carouselref09_Check.l0]
  rw [if_neg (by omega), List.drop_of_length_le (by omega)]
  rfl
 | succ d ih =>
  intro i a hi hz hp k hk
  obtain ⟨k, rfl⟩ : ∃ m, k = m + 1 := ⟨k - 1, by omega⟩
  have hlt : i < l.length := by omega
  have hr : rd_T50 l (i : Int) = l[i] := by simp [rd_T50, List.getD, hlt]
  have hnext : ∀ (_ : l[i].f0 = a) (_ : l[i].f0 < l[i].f1), carouselref09_Check.l0 k l (wrap64 ((i : Int) + 1)) = some (if lnk a (l[i] :: l.drop (i + 1)) = true then 0 else 2) := by
   intro h1 h2
   rw [show wrap64 ((i : Int) + 1) = ((i + 1 : Nat) : Int) by unfold wrap64; omega, ih (i + 1) l[i].f1 (by omega) (by omega) (by intro _; rw [Nat.add_sub_cancel, hr]) k (by omega)]
   congr 2
   rw [eq_iff_iff, lnk_cons]
   exact ⟨fun h => ⟨h1, h2, h⟩, fun h => h.2.2⟩
  simp only [carouselref09_Check.l0]
  rw [if_pos (by omega), if_pos (by omega), hr, List.drop_eq_getElem_cons hlt]
  by_cases h : l[i].f0 ≥ l[i].f1
  ·rw [if_pos h, if_neg (by rw [lnk_cons]; omega)]
  ·rw [if_neg h]
   by_cases hi0 : i = 0
   ·rw [if_neg (by omega)]
    refine hnext ?_ (by omega)
    rw [hz hi0, ← hr, hi0]
    rfl
   ·have e1 : wrap64 ((i : Int) - 1) = ((i - 1 : Nat) : Int) := by unfold wrap64; omega
    rw [if_pos (by omega), e1, if_pos (by omega), if_pos (by omega), ← hp (by omega)]
    by_cases h2 : l[i].f0 = a
    ·rw [if_pos h2]
     exact hnext h2 (by omega)
    ·rw [if_neg h2, if_neg (by rw [lnk_cons]; exact fun h => h2 h.1)]
open Classical in
theorem ref11Check_at (v e : Int) (l : List S50) (k : Nat) (hn : l.length ≤ 1000000) (hk : l.length + 1 < k) : carouselref11_Check.f k v e l = some (if OkG v e l then 0 else 2) := by
 obtain ⟨k, rfl⟩ : ∃ m, k = m + 1 := ⟨k - 1, by omega⟩
 unfold carouselref11_Check.f carouselref09_Check.f
 have ht : carouselref09_Check.j0 (k + 1) l true = some 2 := by simp only [carouselref09_Check.j0, if_true]
 by_cases h1 : e < 0
 ·rw [if_pos h1, if_neg (fun h => by have := h.1; omega)]
 ·rw [if_neg h1]
  by_cases h2 : e > 4096
  ·rw [if_pos h2, if_neg (fun h => by have := h.2.1; omega)]
  ·rw [if_neg h2]
   by_cases h3 : v < 1
   ·rw [if_pos h3, ht, if_neg (fun h => by have := h.2.2.1; omega)]; rfl
   ·rw [if_neg h3]
    by_cases h4 : v > 256
    ·rw [if_pos h4, ht, if_neg (fun h => by have := h.2.2.2.1; omega)]; rfl
    ·rw [if_neg h4]
     by_cases h0 : (l.length : Int) < 1
     ·rw [if_pos h0, ht, if_neg]; rfl
      intro h
      have hl : l = [] := List.length_eq_zero_iff.mp (by omega)
      have := h.2.2.2.2.2
      rw [hl] at this
      simp [chain] at this
      omega
     ·rw [if_neg h0]
      by_cases h5 : (l.length : Int) > 16
      ·rw [if_pos h5, ht, if_neg (fun h => by have := h.2.2.2.2.1; omega)]; rfl
      ·rw [if_neg h5, if_pos (by omega)]
       have hne : l ≠ [] := fun h => by rw [h] at h0; simp at h0
       obtain ⟨p, q, hpq⟩ : ∃ p q, l = p :: q := by cases l with | nil => exact absurd rfl hne | cons p q => exact ⟨p, q, rfl⟩
       have hp0 : rd_T50 l 0 = p := by rw [hpq]; rfl
       by_cases h6 : (rd_T50 l 0).f0 = 0
       ·have e1 : wrap64 ((l.length : Int) - 1) = ((l.length - 1 : Nat) : Int) := by unfold wrap64; omega
        rw [if_pos h6, e1, if_pos (by omega), if_pos (by omega), ← lastEnd_rd l 0 hne]
        by_cases h7 : lastEnd 0 l = v
        ·rw [show (lastEnd 0 l != v) = false by simp [h7]]
         simp only [carouselref09_Check.j0, Bool.false_eq_true, if_false]
         have hr : carouselref09_Check.l0 k l 0 = some (if lnk 0 (l.drop 0) = true then 0 else 2) := ref09_loop l hn l.length 0 0 (by omega) (fun _ => h6.symm) (fun h => absurd h (by omega)) k (by omega)
         rw [hr, List.drop_zero, Option.bind_some]
         congr 1
         by_cases h8 : lnk 0 l = true
         ·rw [if_pos h8, if_pos ⟨by omega, by omega, by omega, by omega, by omega, (chain_iff l 0 v).2 ⟨h8, h7⟩⟩]
         ·rw [if_neg h8, if_neg (fun h => h8 ((chain_iff l 0 v).1 h.2.2.2.2.2).1)]
        ·rw [show (lastEnd 0 l != v) = true by simp [h7], ht, if_neg (fun h => h7 ((chain_iff l 0 v).1 h.2.2.2.2.2).2)]; rfl
       ·rw [if_neg h6, ht, if_neg]; rfl
        intro h
        have := h.2.2.2.2.2
        rw [hpq, chain_cons] at this
        rw [hp0] at h6
        exact h6 this.1
theorem chain_ups (l : List S50) : ∀ (a nx n : Int), nx ≤ a + 1 → chain a l n = true → ups nx (l.map (·.f1)) = true := by
 induction l with
 | nil => intro _ _ _ _ _; rfl
 | cons p l ih =>
  intro a nx n h hc
  rw [chain_cons] at hc
  rw [List.map_cons, ups_cons]
  exact ⟨by omega, ih p.f1 _ n (by omega) hc.2.2⟩
theorem chain_bound (l : List S50) : ∀ (a n : Int), chain a l n = true → a ≤ n ∧ ∀ x ∈ l.map (·.f1), a < x ∧ x ≤ n := by
 induction l with
 | nil => intro a n h; simp [chain] at h; exact ⟨by omega, fun x hx => by simp at hx⟩
 | cons p l ih =>
  intro a n hc
  rw [chain_cons] at hc
  obtain ⟨h1, h2⟩ := ih _ _ hc.2.2
  refine ⟨by omega, fun x hx => ?_⟩
  rw [List.map_cons, List.mem_cons] at hx
  rcases hx with rfl | hx
  ·omega
  ·have := h2 x hx; omega
theorem chain_betw (l : List S50) : ∀ (a n : Int), chain a l n = true → betw a (l.map (·.f1)) = l := by
 induction l with
 | nil => intro _ _ _; rfl
 | cons p l ih =>
  intro a n hc
  rw [chain_cons] at hc
  rw [List.map_cons, betw, ih _ _ hc.2.2, ← hc.1]
/-! ### Encode, by both -/
def gB (v e : Nat) (l : List Int) : ByteArray := bodyB v e l ++ sumB (bodyB v e l)
theorem ok_facts {v e : Int} {l : List S50} (h : OkG v e l) : ∃ (v' e' : Nat), v = v' ∧ e = e' ∧ 1 ≤ v' ∧ v' ≤ 256 ∧ e' ≤ 4096 ∧ l.length ≤ 16 ∧ ups 0 (l.map (·.f1)) = true ∧ (∀ x ∈ l.map (·.f1), -9223372036854775808 ≤ x ∧ x ≤ 9223372036854775807) ∧ betw 0 (l.map (·.f1)) = l := by
 obtain ⟨h1, h2, h3, h4, h5, h6⟩ := h
 refine ⟨v.toNat, e.toNat, by omega, by omega, by omega, by omega, by omega, h5, chain_ups l 0 0 v (by omega) h6, fun x hx => ?_, chain_betw l 0 v h6⟩
 have := (chain_bound l 0 v h6).2 x hx
 omega
open Classical in
theorem manEncodeAll (v e : Int) (l : List S50) (hn : l.length ≤ 1000000) (k : Nat) (hk : l.length + 1000 < k) :
  manifest_Encode.f k v e l = some (if OkG v e l then (gB v.toNat e.toNat (l.map (·.f1)), 0) else (⟨#[]⟩, 2)) := by
 by_cases h : OkG v e l
 ·rw [if_pos h]
  obtain ⟨v', e', rfl, rfl, h1, h2, h3, h4, h5, h6, _⟩ := ok_facts h
  have hc : manifest_Check.f k v' e' l = some 0 := by rw [manCheck_at _ _ l k hn (by omega), if_pos h]
  rw [(manEncode_at v' e' l k hc h2 h3 h4 h5 h6 (by omega)).1, Int.toNat_natCast, Int.toNat_natCast]
  rfl
 ·rw [if_neg h]
  unfold manifest_Encode.f
  rw [manCheck_at _ _ l k hn (by omega), if_neg h, Option.bind_some, if_neg (by omega)]
theorem ref11_l1 (b : ByteArray) (n : Int) (hb : b.size ≤ 1000000) (k : Nat) : carouselref11_Encode.l1 (k + 5) b n 0 = some (b ++ strOfNums [n % 256, (n / 256) % 256, (n / 65536) % 256, (n / 16777216) % 256], 0) := by
 have sz : ∀ x : Int, (strOfNums [x]).size = 1 := fun x => by rw [strOfNums_size]; rfl
 have e0 : shr .u32 n 0 = n := by simp [shr]
 have e1 : shr .u32 n 8 = n / 256 := by simp [shr, IntKind.bits]
 have e2 : shr .u32 n 16 = n / 65536 := by simp [shr, IntKind.bits]
 have e3 : shr .u32 n 24 = n / 16777216 := by simp [shr, IntKind.bits]
 simp only [carouselref11_Encode.l1]
 rw [if_pos (by omega), show wrap64 (8 * 0) = 0 by unfold wrap64; omega, if_pos (by omega), Option.bind_some, sz, if_pos (by omega), show wrap64 (0 + 1) = 1 by unfold wrap64; omega, if_pos (by omega), show wrap64 (8 * 1) = 8 by unfold wrap64; omega, if_pos (by omega), Option.bind_some, sz,
  if_pos (by rw [ByteArray.size_append, sz]; omega), show wrap64 (1 + 1) = 2 by unfold wrap64; omega, if_pos (by omega), show wrap64 (8 * 2) = 16 by unfold wrap64; omega, if_pos (by omega), Option.bind_some, sz, if_pos (by rw [ByteArray.size_append, ByteArray.size_append, sz, sz]; omega),
  show wrap64 (2 + 1) = 3 by unfold wrap64; omega, if_pos (by omega), show wrap64 (8 * 3) = 24 by unfold wrap64; omega, if_pos (by omega), Option.bind_some, sz, if_pos (by rw [ByteArray.size_append, ByteArray.size_append, ByteArray.size_append, sz, sz, sz]; omega), show wrap64 (3 + 1) = 4 by unfold wrap64; omega, if_neg (by omega), e0, e1, e2, e3]
 congr 2
 apply ByteArray.ext
 apply Array.toList_inj.1
 simp [strOfNums, ByteArray.data_append]
theorem ref11_ends (v e : Int) (l : List S50) (hn : l.length ≤ 1000000) (R : Option (ByteArray × Int)) (B : Nat) (hR : ∀ k, B < k → carouselref11_Encode.l0 (k + 1) (l.map (·.f1)) (l.length : Int) v e l = R) : ∀ (d i : Nat) (acc : List Int), i + d = l.length → acc = (l.take i).map (·.f1) → ∀ k, B + d + 1 < k → carouselref11_Encode.l0 k acc (i : Int) v e l = R := by
 intro d
 induction d with
 | zero =>
  intro i acc hi ha k hk
  obtain ⟨k, rfl⟩ : ∃ m, k = m + 1 := ⟨k - 1, by omega⟩
  rw [ha, List.take_of_length_le (by omega), show (i : Int) = (l.length : Int) by omega]
  exact hR k (by omega)
 | succ d ih =>
  intro i acc hi ha k hk
  obtain ⟨k, rfl⟩ : ∃ m, k = m + 1 := ⟨k - 1, by omega⟩
  have hlt : i < l.length := by omega
  have hr : rd_T50 l (i : Int) = l[i] := by simp [rd_T50, List.getD, hlt]
  have hal : acc.length ≤ 1000000 := by rw [ha, List.length_map, List.length_take]; omega
  simp only [carouselref11_Encode.l0]
  rw [if_pos (by omega), if_pos (by omega), if_pos (by omega), hr, show wrap64 ((i : Int) + 1) = ((i + 1 : Nat) : Int) by unfold wrap64; omega]
  refine ih (i + 1) _ (by omega) ?_ k (by omega)
  rw [ha, List.take_succ_eq_append_getElem hlt, List.map_append]
  rfl
open Classical in
theorem refEncodeAll (v e : Int) (l : List S50) (hn : l.length ≤ 1000000) (k : Nat) (hk : l.length + 20000 < k) :
  carouselref11_Encode.f k v e l = some (if OkG v e l then (gB v.toNat e.toNat (l.map (·.f1)), 0) else (⟨#[]⟩, 2)) := by
 unfold carouselref11_Encode.f
 rw [ref11Check_at v e l k hn (by omega), Option.bind_some]
 by_cases h : OkG v e l
 ·rw [if_pos h, if_pos h, if_pos rfl]
  obtain ⟨v', e', rfl, rfl, h1, h2, h3, h4, h5, h6, _⟩ := ok_facts h
  rw [Int.toNat_natCast, Int.toNat_natCast]
  have hml : (l.map (·.f1)).length ≤ 16 := by rw [List.length_map]; exact h4
  have hle : (listEnc (l.map (·.f1))).length ≤ 10 * (l.map (·.f1)).length + 10 := by rcases listEnc_le _ h6 (by omega) with h | h; exact h; rw [h5] at h; cases h
  have q1 : (encB v').size ≤ 10 := by rw [encB_size]; exact enc_len10 (by omega)
  have q2 : (encB e').size ≤ 10 := by rw [encB_size]; exact enc_len10 (by omega)
  have hb : ((((⟨#[99, 97, 114]⟩ : ByteArray) ++ encB v') ++ encB e') ++ (⟨(listEnc (l.map (·.f1))).toArray⟩ : ByteArray)) = bodyB v' e' (l.map (·.f1)) := by
   apply ByteArray.ext
   simp [bodyB, bodyL, encB, ByteArray.data_append]
  have hsz : (bodyB v' e' (l.map (·.f1))).size ≤ 300 := by
   rw [← hb]
   simp only [ByteArray.size_append, list_size (listEnc (l.map (·.f1)))]
   rw [show (⟨#[99, 97, 114]⟩ : ByteArray).size = 3 from rfl]
   omega
  have s3 : (⟨#[99, 97, 114]⟩ : ByteArray).size = 3 := rfl
  refine ref11_ends v' e' l hn _ 10000 ?_ l.length 0 [] (by omega) rfl k (by omega)
  intro k hk
  simp only [carouselref11_Encode.l0]
  rw [if_neg (by omega), refEncode_at _ h6 (by omega) k (by omega), if_pos h5, Option.bind_some, refPut_pos (by omega) (by omega) k (by omega), Option.bind_some, Int.toNat_natCast, if_pos (by omega), refPut_pos (by omega) (by omega) k (by omega), Option.bind_some, Int.toNat_natCast]
  dsimp only
  rw [if_pos (by rw [ByteArray.size_append, s3]; omega), if_pos (by rw [ByteArray.size_append, ByteArray.size_append, s3, list_size (listEnc (l.map (·.f1)))]; omega), hb, refSum_at _ (by omega) k (by omega), Option.bind_some]
  obtain ⟨k, rfl⟩ : ∃ m, k = m + 5 := ⟨k - 5, by omega⟩
  rw [ref11_l1 _ _ (by omega) k, gB, sumB_eq _ (by omega)]
 ·rw [if_neg h, if_neg h, if_neg (by omega)]
/-! ### Decode, by both -/
def Good (v e : Nat) (l : List Int) : Prop := OkG v e (betw 0 l) ∧ ups 0 l = true ∧ Small l
theorem good_len {v e : Nat} {l : List Int} (h : Good v e l) : l.length ≤ 16 := by have := h.1.2.2.2.2.1; rw [betw_len] at this; exact this
theorem good_i64 {v e : Nat} {l : List Int} (h : Good v e l) : ∀ x ∈ l, -9223372036854775808 ≤ x ∧ x ≤ 9223372036854775807 := fun x hx => ⟨by have := ups_bound l 0 (by omega) h.2.1 x hx; omega, h.2.2 x hx⟩
theorem good_size {v e : Nat} {l : List Int} (h : Good v e l) : (bodyB v e l).size ≤ 300 := by
 have h1 := good_len h
 obtain ⟨_, h2, _, h3, _⟩ := h.1
 have q1 := enc_len10 (u := v) (by omega)
 have q2 := enc_len10 (u := e) (by omega)
 have hle : (listEnc l).length ≤ 10 * l.length + 10 := by rcases listEnc_le _ (good_i64 h) (by omega) with g | g; exact g; rw [h.2.1] at g; cases g
 unfold bodyB bodyL
 rw [list_size, List.length_append, List.length_append, List.length_append]
 simp only [List.length_cons, List.length_nil]
 omega
theorem good_one {v e v' e' : Nat} {l l' : List Int} (h : Good v e l) (h' : Good v' e' l') (he : gB v e l = gB v' e' l') : v = v' ∧ e = e' ∧ l = l' :=
 body_same h.2.1 h'.2.1 (good_size h) (good_size h') (by unfold gB at he; rw [he])
/-- What a decoder tells. -/
def Tells (s : ByteArray) (res : Int × Int × List S50 × Int) : Prop := (∃ v e l, Good v e l ∧ s = gB v e l ∧ res = ((v : Int), (e : Int), betw 0 l, 0)) ∨ ((¬ ∃ v e l, Good v e l ∧ s = gB v e l) ∧ res = (0, 0, [], 10))
theorem Tells.one {s : ByteArray} {r r' : Int × Int × List S50 × Int} (h : Tells s r) (h' : Tells s r') : r = r' := by
 rcases h with ⟨v, e, l, hg, hs, rfl⟩ | ⟨hn, rfl⟩
 ·rcases h' with ⟨v', e', l', hg', hs', rfl⟩ | ⟨hn', _⟩
  ·obtain ⟨rfl, rfl, rfl⟩ := good_one hg hg' (by rw [← hs, ← hs'])
   rfl
  ·exact absurd ⟨v, e, l, hg, hs⟩ hn'
 ·rcases h' with ⟨v', e', l', hg', hs', _⟩ | ⟨_, rfl⟩
  ·exact absurd ⟨v', e', l', hg', hs'⟩ hn
  ·rfl
theorem good_check {v e : Nat} {l : List Int} (h : Good v e l) (k : Nat) (hk : 100 < k) : manifest_Check.f k v e (betw 0 l) = some 0 := by
 classical
 have := good_len h
 rw [manCheck_at _ _ _ k (by rw [betw_len]; omega) (by rw [betw_len]; omega), if_pos h.1]
theorem manTells (s : ByteArray) (hs : s.size ≤ 2100) (k : Nat) (hk : 10000 < k) : ∃ res, manifest_Decode.f k s = some res ∧ Tells s res := by
 classical
 by_cases hex : ∃ v e l, Good v e l ∧ s = gB v e l
 ·obtain ⟨v, e, l, hg, rfl⟩ := hex
  have h1 := good_size hg
  have h2 := good_check hg k (by omega)
  obtain ⟨_, h3, _, h4, _⟩ := hg.1
  exact ⟨_, manDecode_yes v e l (by omega) (by omega) (by omega) hg.2.1 hg.2.2 k hk h2, .inl ⟨v, e, l, hg, rfl, rfl⟩⟩
 ·obtain ⟨res, hr, h | ⟨v, e, l, h1, h2, h3, h4, h5⟩⟩ := manDecode_at s hs k hk
  ·exact ⟨res, hr, .inr ⟨hex, h⟩⟩
  ·refine absurd ⟨v, e, l, ⟨?_, h3, h4⟩, h5⟩ hex
   obtain ⟨r, hr1, _, hr3⟩ := manCheck_some v e (betw 0 l) 10000000 (by
    have hl : (listEnc l).length ≤ s.size := by
     rw [h5, ByteArray.size_append]
     unfold bodyB bodyL
     rw [list_size, List.length_append, List.length_append, List.length_append]
     omega
    have := body_len l 0
    rw [listEnc, List.length_append] at hl
    rw [betw_len]; omega) (by
    have hl : (listEnc l).length ≤ s.size := by
     rw [h5, ByteArray.size_append]
     unfold bodyB bodyL
     rw [list_size, List.length_append, List.length_append, List.length_append]
     omega
    have := body_len l 0
    rw [listEnc, List.length_append] at hl
    rw [betw_len]; omega)
   have hl2 : (betw 0 l).length ≤ 2100 := by
    have hl : (listEnc l).length ≤ s.size := by
     rw [h5, ByteArray.size_append]
     unfold bodyB bodyL
     rw [list_size, List.length_append, List.length_append, List.length_append]
     omega
    have := body_len l 0
    rw [listEnc, List.length_append] at hl
    rw [betw_len]; omega
   rw [manCheck_at _ _ _ k (by omega) (by omega)] at h2
   by_cases hok : OkG v e (betw 0 l)
   ·exact hok
   ·rw [if_neg hok] at h2
    simp at h2
theorem ref11_l0 (s : ByteArray) (x1 x2 : Int) (l : List Int) (hn : l.length ≤ 1000) (R : Option (Int × Int × List S50 × Int)) (B : Nat) (hR : ∀ k fr, B < k → carouselref11_Decode.l0 (k + 1) s l fr (l.length : Int) x1 x2 (betw 0 l) = R) : ∀ (d i : Nat) (fr : Int) (acc : List S50), i + d = l.length → acc.length = i → acc ++ betw fr (l.drop i) = betw 0 l → ∀ k, B + d + 1 < k → carouselref11_Decode.l0 k s l fr (i : Int) x1 x2 acc = R := by
 intro d
 induction d with
 | zero =>
  intro i fr acc hi ha he k hk
  obtain ⟨k, rfl⟩ : ∃ m, k = m + 1 := ⟨k - 1, by omega⟩
  rw [List.drop_of_length_le (by omega)] at he
  rw [show acc = betw 0 l by rw [← he]; simp [betw], show (i : Int) = (l.length : Int) by omega]
  exact hR k fr (by omega)
 | succ d ih =>
  intro i fr acc hi ha he k hk
  obtain ⟨k, rfl⟩ : ∃ m, k = m + 1 := ⟨k - 1, by omega⟩
  have hlt : i < l.length := by omega
  have hr : rd l (i : Int) = l[i] := by simp [rd, List.getD, hlt]
  simp only [carouselref11_Decode.l0]
  rw [if_pos (by omega), if_pos (by omega), if_pos (by omega), hr, show wrap64 ((i : Int) + 1) = ((i + 1 : Nat) : Int) by unfold wrap64; omega]
  refine ih (i + 1) _ _ (by omega) (by simp; omega) ?_ k (by omega)
  rw [← he, List.drop_eq_getElem_cons hlt]
  simp [betw]
theorem gB_toList (v e : Nat) (l : List Int) : (gB v e l).data.toList = bodyL v e l ++ (sumB (bodyB v e l)).data.toList := by
 unfold gB
 rw [ByteArray.data_append, Array.toList_append]
 rfl
theorem refTells (s : ByteArray) (hs : s.size ≤ 2100) (k : Nat) (hk : 100000 < k) : ∃ res, carouselref11_Decode.f k s = some res ∧ Tells s res := by
 classical
 unfold carouselref11_Decode.f
 rw [refGet_at s (by omega) 3 k (by omega), Option.bind_some]
 by_cases hex : ∃ v e l, Good v e l ∧ s = gB v e l
 ·obtain ⟨v, e, l, hg, he⟩ := hex
  refine ⟨((v : Int), (e : Int), betw 0 l, 0), ?_, .inl ⟨v, e, l, hg, he, rfl⟩⟩
  have hd : s.data.toList = [99, 97, 114] ++ (enc v ++ (enc e ++ (listEnc l ++ (sumB (bodyB v e l)).data.toList))) := by
   rw [he, gB_toList, bodyL]
   simp only [List.append_assoc]
  have hsl : s.size = 3 + ((enc v).length + ((enc e).length + ((listEnc l).length + (sumB (bodyB v e l)).data.toList.length))) := by
   rw [← data_length, hd]
   simp only [List.length_append, List.length_cons, List.length_nil]
  have hlen := good_len hg
  obtain ⟨g1, g2, g3, g4, _⟩ := hg.1
  have s1 : StandsAt s 3 v (enc e ++ (listEnc l ++ (sumB (bodyB v e l)).data.toList)) := ⟨by omega, by omega, by omega, by rw [hd]; rfl⟩
  have n1 := s1.len
  have s2 : StandsAt s (3 + (enc v).length : Int) e (listEnc l ++ (sumB (bodyB v e l)).data.toList) := ⟨by omega, by omega, by omega, by
   rw [hd, show (3 + (enc v).length : Int).toNat = ([99, 97, 114] : List UInt8).length + (enc v).length by show _ = 3 + _; omega, ← List.append_assoc, ← List.length_append, List.drop_left]⟩
  have n2 := s2.len
  have s3 : ListAt s (3 + (enc v).length + (enc e).length : Int) l ((sumB (bodyB v e l)).data.toList) := ⟨by omega, by omega, hg.2.1, hg.2.2, by
   rw [hd, show (3 + (enc v).length + (enc e).length : Int).toNat = ([99, 97, 114] : List UInt8).length + ((enc v).length + (enc e).length) by show _ = 3 + _; omega, ← List.append_assoc (enc v), ← List.append_assoc, ← List.length_append, ← List.length_append, List.drop_left]⟩
  rw [getR_yes s1 (by omega)]
  dsimp only
  rw [if_pos rfl, n1, refGet_at s (by omega) _ k (by omega), getR_yes s2 (by omega), Option.bind_some]
  dsimp only
  rw [n2]
  obtain ⟨k, rfl⟩ : ∃ m, k = m + 1 + 1 := ⟨k - 2, by omega⟩
  simp only [carouselref11_Decode.j0, if_true]
  rw [refDecode_at s (by omega) _ _ (by omega), decR_yes s3, Option.bind_some]
  dsimp only
  rw [if_pos rfl, decide_eq_false (by omega)]
  simp only [carouselref11_Decode.j1, Bool.false_eq_true, if_false]
  refine ref11_l0 s v e l (by omega) _ 50000 ?_ l.length 0 0 [] (by omega) rfl (by simp) k (by omega)
  intro k fr hk
  simp only [carouselref11_Decode.l0]
  rw [if_neg (by omega), refEncodeAll v e (betw 0 l) (by rw [betw_len]; omega) k (by rw [betw_len]; omega), if_pos hg.1, Option.bind_some]
  dsimp only
  rw [if_pos rfl, betw_ends, Int.toNat_natCast, Int.toNat_natCast, if_pos (by rw [he])]
 ·have hno : ∀ (x1 x2 : Int) (l : List Int), l.length ≤ 16 → ups 0 l = true → Small l → OkG x1 x2 (betw 0 l) → (gB x1.toNat x2.toNat l).toList = s.toList → False := by
   intro x1 x2 l h1 h2 h3 h4 h5
   have h6 : s = gB x1.toNat x2.toNat l := by
    apply ByteArray.ext
    apply Array.toList_inj.1
    rw [Lib.toList_data, Lib.toList_data] at h5
    exact h5.symm
   refine hex ⟨_, _, l, ⟨?_, h2, h3⟩, h6⟩
   have := h4
   obtain ⟨q1, q2, q3, q4, _⟩ := h4
   rw [show ((x1.toNat : Nat) : Int) = x1 by omega, show ((x2.toNat : Nat) : Int) = x2 by omega]
   exact this
  obtain ⟨k, rfl⟩ : ∃ m, k = m + 1 + 1 := ⟨k - 2, by omega⟩
  refine ⟨(0, 0, [], 10), ?_, .inr ⟨hex, rfl⟩⟩
  have jf : ∀ a b c, carouselref11_Decode.j0 (k + 1 + 1) s false a b c = some (0, 0, [], 10) := fun a b c => by simp only [carouselref11_Decode.j0, Bool.false_eq_true, if_false]
  obtain ⟨⟨x1, n1, o1⟩, e1⟩ : ∃ r, getR s 3 = r := ⟨_, rfl⟩
  rw [e1]
  dsimp only
  by_cases c1 : o1 = true
  ·rw [if_pos c1, refGet_at s (by omega) n1 _ (by omega), Option.bind_some]
   obtain ⟨⟨x2, n2, o2⟩, e2⟩ : ∃ r, getR s n1 = r := ⟨_, rfl⟩
   rw [e2]
   dsimp only
   by_cases c2 : o2 = true
   ·subst c2
    simp only [carouselref11_Decode.j0, if_true]
    rw [refDecode_at s (by omega) _ _ (by omega), Option.bind_some]
    obtain ⟨⟨l, n3, er⟩, e3⟩ : ∃ r, decR s n2 = r := ⟨_, rfl⟩
    rw [e3]
    dsimp only
    have j1t : carouselref11_Decode.j1 (k + 1) s l true x1 x2 = some (0, 0, [], 10) := by simp only [carouselref11_Decode.j1, if_true]
    by_cases c3 : er = 0
    ·rw [if_pos c3]
     by_cases c4 : (l.length : Int) > 16
     ·rw [decide_eq_true c4, j1t]
     ·rw [decide_eq_false c4]
      simp only [carouselref11_Decode.j1, Bool.false_eq_true, if_false]
      subst c3
      obtain ⟨r3, st3, hn3⟩ := decR_fact e3
      refine ref11_l0 s x1 x2 l (by omega) _ 50000 ?_ l.length 0 0 [] (by omega) rfl (by simp) k (by omega)
      intro k fr hk
      simp only [carouselref11_Decode.l0]
      rw [if_neg (by omega), refEncodeAll x1 x2 (betw 0 l) (by rw [betw_len]; omega) k (by rw [betw_len]; omega), Option.bind_some]
      by_cases h5 : OkG x1 x2 (betw 0 l)
      ·rw [if_pos h5]
       dsimp only
       rw [if_pos rfl, betw_ends, if_neg (fun h => hno x1 x2 l (by omega) st3.2.2.1 st3.2.2.2.1 h5 h)]
      ·rw [if_neg h5]
       dsimp only
       rw [if_neg (by omega)]
    ·rw [if_neg c3, j1t]
   ·rw [Bool.eq_false_iff.mpr c2, jf]
  ·rw [if_neg c1, jf]
theorem ManifestTell (v e : Int) (l : List S50) (s : ByteArray) : ∃ k, carousellaw11_ManifestTell.f k v e l s = some true := by
 classical
 obtain ⟨k, hk⟩ : ∃ k : Nat, 1000000 < k := ⟨1000001, by omega⟩
 refine ⟨k + 1, ?_⟩
 unfold carousellaw11_ManifestTell.f
 have jt : carousellaw11_ManifestTell.j0 (k + 1) s true v e l = some true := by simp only [carousellaw11_ManifestTell.j0, if_true]
 by_cases h1 : (l.length : Int) > 100
 ·rw [if_pos h1, jt]
 ·rw [if_neg h1]
  by_cases h2 : (s.size : Int) > 2000
  ·rw [decide_eq_true h2, jt]
  ·rw [decide_eq_false h2]
   simp only [carousellaw11_ManifestTell.j0, Bool.false_eq_true, if_false]
   obtain ⟨r1, hr1, t1⟩ := manTells s (by omega) k (by omega)
   obtain ⟨r2, hr2, t2⟩ := refTells s (by omega) k (by omega)
   obtain rfl := t1.one t2
   rw [if_pos (by simp; omega), Option.bind_some, List.nil_append, manEncodeAll v e l (by omega) k (by omega), Option.bind_some, refEncodeAll v e l (by omega) k (by omega), Option.bind_some, hr1, Option.bind_some, hr2, Option.bind_some,
    manCheck_at v e l k (by omega) (by omega), Option.bind_some, ref11Check_at v e l k (by omega) (by omega), Option.bind_some, if_pos rfl, if_pos rfl, if_pos rfl]
   have hl : r1.2.2.1.length ≤ 16 := by
    rcases t1 with ⟨v, e, l, hg, _, rfl⟩ | ⟨_, rfl⟩
    ·exact hg.1.2.2.2.2.1
    ·simp
   rw [same11_self _ _ _ (by omega) k (by omega), Option.bind_some, if_pos rfl, if_pos rfl, same11_self _ _ _ (by omega) k (by omega), Option.bind_some, if_pos rfl, does_at (by omega)]
   rfl
end Go.Proofs.Ytnbdplhbkennfaa.Pure
