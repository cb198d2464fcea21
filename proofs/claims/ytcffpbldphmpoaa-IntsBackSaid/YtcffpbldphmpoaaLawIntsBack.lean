/- What is put between any bytes is got there, up to its end; and so is the int: the walk of the law over the printed callees, and its row. No condition. -/
import Derived.Test.YtcffpbldphmpoaaRows
import Derived.Test.YtcffpbldphmpoaaPIntsBackx2
import Derived.Test.YtcffpbldphmpoaaMa
import Derived.WalkKit
import Derived.ProofKit
import Derived.OpenShut
import Derived.ShutString
import Derived.ChangeOld
import Derived.Below
import Derived.SizedLaws
namespace Go.Proofs.Ytcffpbldphmpoaa.intsBack
open Go.ChangeShapes Go.WideShapes Go.ChangeAt Go.RowKit
open Go.ChangeMaps (open_string shut_string)
open Go.Proofs.Ytcffpbldphmpoaa.PIntsBack Go.Proofs.YtcffpbldphmpoaaW.PrintWords Go.Proofs.YtcffpbldphmpoaaW.PrintLast Go.Proofs.YtcffpbldphmpoaaW.PrintMore Go.Proofs.Ytcffpbldphmpoaa.Ma
set_option linter.unusedVariables false
set_option linter.unusedSimpArgs false
/-! ### ints: what put and get tell -/
theorem put_loop : ∀ (d u : Nat) (acc : List Int) (i : Int), u < 128 ^ (d + 1) → 0 ≤ i → i + d ≤ 9 → acc.length ≤ i → ∀ k, d < k →
    ints_put.l0 k (u : Int) acc i = some ⟨(acc.map (fun n => UInt8.ofNat n.toNat) ++ enc u).toArray⟩ := by
  intro d
  induction d with
  | zero =>
    intro u acc i hu h0 hi ha k hk
    obtain ⟨k, rfl⟩ : ∃ m, k = m + 1 := ⟨k - 1, by omega⟩
    simp only [ints_put.l0]
    rw [if_pos (by omega), if_pos (by omega), if_pos (by omega), enc_small (by omega)]
    simp only [strOfNums, List.map_append, List.map_cons, List.map_nil]
    congr 6
    omega
  | succ d ih =>
    intro u acc i hu h0 hi ha k hk
    obtain ⟨k, rfl⟩ : ∃ m, k = m + 1 := ⟨k - 1, by omega⟩
    simp only [ints_put.l0]
    by_cases h : u < 128
    · rw [if_pos (by omega), if_pos (by omega), if_pos (by omega), enc_small (by omega)]
      simp only [strOfNums, List.map_append, List.map_cons, List.map_nil]
      congr 6
      omega
    · rw [if_pos (by omega), if_neg (by omega), if_pos (by omega), show wrap64 (i + 1) = i + 1 by unfold wrap64; omega, show ((u : Int) / 128) = ((u / 128 : Nat) : Int) by omega]
      rw [ih (u / 128) _ (i + 1) (by rw [Nat.div_lt_iff_lt_mul (by omega)]; rw [Nat.pow_succ] at hu; exact hu) (by omega) (by omega) (by simp; omega) k (by omega), enc_big (u := u) (by omega), or_128]
      simp only [List.map_append, List.map_cons, List.map_nil, List.append_assoc, List.cons_append, List.nil_append, Int.toNat_natCast]
theorem put_at {u : Nat} (hu : u < 18446744073709551616) (k : Nat) (hk : 10 ≤ k) : ints_put.f k (u : Int) = some (encB u) := by
  unfold ints_put.f
  rw [put_loop 9 u [] 0 (by have := p128; omega) (by omega) (by omega) (by simp) k (by omega)]
  rfl
theorem Put_at {n : Int} (h0 : 0 ≤ n) (h1 : n ≤ 9223372036854775807) (k : Nat) (hk : 10 ≤ k) : ints_Put.f k n = some (encB n.toNat) := by
  unfold ints_Put.f
  rw [if_neg (by omega), wrap_u64, show n % 18446744073709551616 = ((n.toNat : Nat) : Int) by omega, put_at (by omega) k hk]
  rfl
theorem Put_neg {n : Int} (h0 : n < 0) (k : Nat) : ints_Put.f k n = some (⟨#[]⟩ : ByteArray) := by
  unfold ints_Put.f
  rw [if_pos h0]
theorem PutInt_at {n : Int} (h0 : -9223372036854775808 ≤ n) (h1 : n ≤ 9223372036854775807) (k : Nat) (hk : 10 ≤ k) : ints_PutInt.f k n = some (encB (zig n)) := by
  unfold ints_PutInt.f
  rw [zig_bits n h0 h1, put_at (zig_lt h0 h1) k hk]
  rfl
theorem get_loop (s : ByteArray) (hs : s.size ≤ 140737488351232) (at' : Nat) : ∀ (d i acc : Nat), i + d = 10 → acc < 128 ^ i → at' + i ≤ s.size →
    ∀ k, 2 * d + 1 < k → ∃ res, ints_get.l0 k s (at' : Int) (acc : Int) (mn ((s.size : Int) - at') 10) (i : Int) = some res ∧
      (∀ v r, (i = 0 ∨ 0 < v) → acc + v * 128 ^ i < 18446744073709551616 → s.data.toList.drop (at' + i) = enc v ++ r → res = (((acc + v * 128 ^ i : Nat) : Int), (s.size : Int) - r.length, true)) ∧
      (res.2.2 = true → ∃ v r, (i = 0 ∨ 0 < v) ∧ acc + v * 128 ^ i < 18446744073709551616 ∧ s.data.toList.drop (at' + i) = enc v ++ r) := by
  intro d
  induction d with
  | zero =>
    intro i acc hi ha hat k hk
    obtain ⟨k, rfl⟩ : ∃ m, k = m + 1 := ⟨k - 1, by omega⟩
    obtain rfl : i = 10 := by omega
    simp only [ints_get.l0]
    rw [if_neg (by unfold mn; split <;> omega)]
    refine ⟨_, rfl, ?_, fun h => by simp at h⟩
    intro v r hv hlt _
    have := p128
    omega
  | succ d ih =>
    intro i acc hi ha hat k hk
    obtain ⟨k, rfl⟩ : ∃ m, k = m + 1 := ⟨k - 1, by omega⟩
    simp only [ints_get.l0]
    by_cases hend : at' + i < s.size
    · have hw : wrap64 ((at' : Int) + i) = ((at' + i : Nat) : Int) := by unfold wrap64; omega
      obtain ⟨c, hc, hcb, hdrop⟩ := byte_at s (at' + i) hend
      rw [if_pos (by unfold mn; split <;> omega), hw, if_pos (by omega), if_pos (by omega), hcb]
      obtain ⟨k, rfl⟩ : ∃ m, k = m + 1 := ⟨k - 1, by omega⟩
      have step : ∀ b : Bool, (b = true ↔ i = 9 ∧ 1 < c) → ∃ res, ints_get.j2 (k + 1) s (at' : Int) (acc : Int) (i : Int) (c : Int) (mn ((s.size : Int) - at') 10) (i : Int) b = some res ∧
          (∀ v r, (i = 0 ∨ 0 < v) → acc + v * 128 ^ i < 18446744073709551616 → s.data.toList.drop (at' + i) = enc v ++ r → res = (((acc + v * 128 ^ i : Nat) : Int), (s.size : Int) - r.length, true)) ∧
          (res.2.2 = true → ∃ v r, (i = 0 ∨ 0 < v) ∧ acc + v * 128 ^ i < 18446744073709551616 ∧ s.data.toList.drop (at' + i) = enc v ++ r) := by
        intro b hb
        simp only [ints_get.j2]
        rw [show wrap64 (7 * (i : Int)) = ((7 * i : Nat) : Int) by unfold wrap64; omega, and_127 _ (by omega) (by omega), wrap_u64, show (c : Int) % 128 % 18446744073709551616 = ((c % 128 : Nat) : Int) by omega]
        cases b with
        | true =>
          rw [if_pos rfl]
          refine ⟨_, rfl, ?_, fun h => by simp at h⟩
          obtain ⟨rfl, hc1⟩ := hb.1 rfl
          intro v r hv hlt hd
          exfalso
          rw [hdrop] at hd
          have hp := p128'
          by_cases hv' : v < 128
          · rw [enc_small hv'] at hd
            simp only [List.cons_append, List.nil_append, List.cons.injEq] at hd
            have := u8_inj hc (by omega) hd.1
            have : 2 * 128 ^ 9 ≤ v * 128 ^ 9 := Nat.mul_le_mul_right _ (by omega)
            omega
          · have : 128 * 128 ^ 9 ≤ v * 128 ^ 9 := Nat.mul_le_mul_right _ (by omega)
            omega
        | false =>
          rw [if_neg (by simp), if_pos (by omega)]
          have hnb : ¬ (i = 9 ∧ 1 < c) := fun h => by have := hb.2 h; cases this
          have hfit : acc + (c % 128) * 128 ^ i < 18446744073709551616 := fits ha (by omega) (by omega) hnb
          rw [lay acc (c % 128) i (by omega) ha hfit, hw, show wrap64 (((at' + i : Nat) : Int) + 1) = ((at' + i + 1 : Nat) : Int) by unfold wrap64; omega]
          by_cases hlow : c < 128
          · rw [if_pos (by omega)]
            rw [Nat.mod_eq_of_lt hlow] at *
            have hgood : (0 < c ∨ i = 0) → ∀ v r, (i = 0 ∨ 0 < v) → acc + v * 128 ^ i < 18446744073709551616 → s.data.toList.drop (at' + i) = enc v ++ r →
                ((((acc + c * 128 ^ i : Nat) : Int), ((at' + i + 1 : Nat) : Int), true) : Int × Int × Bool) = (((acc + v * 128 ^ i : Nat) : Int), (s.size : Int) - r.length, true) := by
              intro _ v r hv hlt hd
              rw [hdrop, ← List.singleton_append, ← enc_small hlow] at hd
              obtain ⟨rfl, rfl⟩ := enc_free _ _ _ _ hd
              rw [List.length_drop, data_length]
              congr 2
              omega
            by_cases hc0 : (c : Int) > 0
            · rw [if_pos hc0]
              refine ⟨_, rfl, hgood (.inl (by omega)), fun _ => ⟨c, s.data.toList.drop (at' + i + 1), .inr (by omega), hfit, ?_⟩⟩
              rw [hdrop, enc_small hlow]
              rfl
            · rw [if_neg hc0]
              refine ⟨_, rfl, ?_, ?_⟩
              · intro v r hv hlt hd
                have hd' := hd
                rw [hdrop, ← List.singleton_append, ← enc_small hlow] at hd'
                obtain ⟨rfl, rfl⟩ := enc_free _ _ _ _ hd'
                obtain rfl : i = 0 := by omega
                exact hgood (.inr rfl) _ _ (.inl rfl) hlt hd
              · intro hi0
                have hi0 : i = 0 := by simpa using hi0
                refine ⟨c, s.data.toList.drop (at' + i + 1), .inl hi0, hfit, ?_⟩
                rw [hdrop, enc_small hlow]
                rfl
          · rw [if_neg (by omega), show wrap64 ((i : Int) + 1) = ((i + 1 : Nat) : Int) by unfold wrap64; omega]
            have hi9 : i ≠ 9 := fun h => hnb ⟨h, by omega⟩
            obtain ⟨res, hr, h1, h2⟩ := ih (i + 1) (acc + c % 128 * 128 ^ i) (by omega) (by rw [Nat.pow_succ]; exact grows ha (by omega)) (by omega) k (by omega)
            refine ⟨res, hr, ?_, ?_⟩
            · intro v r hv hlt hd
              rw [hdrop] at hd
              by_cases hv' : v < 128
              · rw [enc_small hv'] at hd
                simp only [List.cons_append, List.nil_append, List.cons.injEq] at hd
                have := u8_inj hc (by omega) hd.1
                omega
              · rw [enc_big (by omega)] at hd
                simp only [List.cons_append, List.cons.injEq] at hd
                have e := u8_inj hc (by omega) hd.1
                have e2 : acc + c % 128 * 128 ^ i + v / 128 * 128 ^ (i + 1) = acc + v * 128 ^ i := parts_of (by omega)
                rw [← e2]
                exact h1 (v / 128) r (.inr (by omega)) (by omega) hd.2
            · intro ht
              obtain ⟨v, r, hv, hlt, hd⟩ := h2 ht
              have e2 : acc + c % 128 * 128 ^ i + v * 128 ^ (i + 1) = acc + (v * 128 + c % 128) * 128 ^ i := by rw [Nat.pow_succ, Nat.add_mul, Nat.mul_assoc, Nat.mul_comm (128 ^ i) 128]; omega
              refine ⟨v * 128 + c % 128, r, .inr (by omega), by omega, ?_⟩
              rw [hdrop, enc_big (by omega), show (v * 128 + c % 128) % 128 + 128 = c by omega, show (v * 128 + c % 128) / 128 = v by omega]
              rw [show at' + (i + 1) = at' + i + 1 by omega] at hd
              rw [hd]
              rfl
      by_cases h9 : (i : Int) = 9
      · rw [if_pos h9]
        refine step _ ?_
        simp only [decide_eq_true_eq]
        omega
      · rw [if_neg h9]
        refine step _ ?_
        simp only [Bool.false_eq_true, false_iff]
        omega
    · rw [if_neg (by unfold mn; split <;> omega)]
      refine ⟨_, rfl, ?_, fun h => by simp at h⟩
      intro v r hv hlt hd
      exfalso
      have := congrArg List.length hd
      rw [List.length_drop, data_length, List.length_append] at this
      have := enc_pos v
      omega
theorem get_at (s : ByteArray) (hs : s.size ≤ 140737488351232) (a : Int) (k : Nat) (hk : 23 < k) : ∃ res, ints_get.f k s a = some res ∧
    (∀ u r, StandsAt s a u r → res = ((u : Int), (s.size : Int) - r.length, true)) ∧ (res.2.2 = true → ∃ u r, StandsAt s a u r) := by
  unfold ints_get.f
  obtain ⟨k, rfl⟩ : ∃ m, k = m + 1 := ⟨k - 1, by omega⟩
  by_cases h0 : a < 0
  · rw [if_pos h0]
    simp only [ints_get.j0, if_true]
    exact ⟨_, rfl, fun u r h => by have := h.1; omega, fun h => by simp at h⟩
  · rw [if_neg h0]
    by_cases h1 : a > (s.size : Int)
    · simp only [ints_get.j0, decide_eq_true h1, if_true]
      exact ⟨_, rfl, fun u r h => by have := h.2.1; omega, fun h => by simp at h⟩
    · simp only [ints_get.j0, decide_eq_false h1, Bool.false_eq_true, if_false]
      obtain ⟨n, rfl⟩ := Int.eq_ofNat_of_zero_le (show 0 ≤ a by omega)
      rw [show wrap64 ((s.size : Int) - n) = (s.size : Int) - n by unfold wrap64; omega]
      obtain ⟨res, hr, g1, g2⟩ := get_loop s hs n 10 0 0 (by omega) (by omega) (by omega) k (by omega)
      refine ⟨res, hr, ?_, ?_⟩
      · intro u r h
        have := g1 u r (.inl rfl) (by have := h.2.2.1; omega) (by have := h.2.2.2; simpa using this)
        simpa using this
      · intro h
        obtain ⟨v, r, _, hlt, hd⟩ := g2 h
        exact ⟨v, r, by omega, by omega, by omega, by simpa using hd⟩
theorem GetInt_at (s : ByteArray) (hs : s.size ≤ 140737488351232) (a : Int) (k : Nat) (hk : 23 < k) : ints_GetInt.f k s a = some (getIntR s a) := by
  obtain ⟨⟨x, y, b⟩, hr, g1, g2⟩ := get_at s hs a k hk
  unfold ints_GetInt.f
  rw [hr]
  simp only [Option.bind_some]
  by_cases h : ∃ u r, StandsAt s a u r
  · obtain ⟨u, r, h⟩ := h
    have e := g1 u r h
    simp only [Prod.mk.injEq] at e
    obtain ⟨rfl, rfl, rfl⟩ := e
    rw [if_pos rfl, zag_bits u h.2.2.1, getIntR_yes h]
  · have e : b = false := by
      cases b with
      | false => rfl
      | true => exact absurd (g2 rfl) h
    subst e
    rw [if_neg (by simp), getIntR_no h]
theorem Get_at (s : ByteArray) (hs : s.size ≤ 140737488351232) (a : Int) (k : Nat) (hk : 23 < k) : ints_Get.f k s a = some (getR s a) := by
  obtain ⟨⟨x, y, b⟩, hr, g1, g2⟩ := get_at s hs a k hk
  unfold ints_Get.f
  rw [hr]
  simp only [Option.bind_some]
  by_cases h : ∃ u r, StandsAt s a u r
  · obtain ⟨u, r, h⟩ := h
    have e := g1 u r h
    simp only [Prod.mk.injEq] at e
    obtain ⟨rfl, rfl, rfl⟩ := e
    rw [if_pos rfl]
    by_cases hm : u ≤ 9223372036854775807
    · rw [if_neg (by omega), getR_yes h hm, show wrap64 (u : Int) = u by unfold wrap64; omega]
    · rw [if_pos (by omega), getR_big h (by omega)]
  · have e : b = false := by
      cases b with
      | false => rfl
      | true => exact absurd (g2 rfl) h
    subst e
    rw [if_neg (by simp), getR_no h]
theorem does_30 : carousellaw01_does.f 30 = some true := by decide +kernel
theorem does_at {k : Nat} (hk : 30 ≤ k) : carousellaw01_does.f k = some true := at_rounds (g := carousellaw01_does.f) carousellaw01_does.mono hk does_30
set_option maxRecDepth 100000 in
theorem walk_long (n : Int) (x y : ByteArray) (w : World) (hx : x.size ≤ maxLen) (hy : y.size ≤ maxLen) (h : 200 < x.size) :
    Calls Try.prog 6 #[.int .i64 n, .agg #[.string x, .string y]] w fun e w' => e = .returned (.bool true) ∧ Below w.heap.size w w' := by
  unfold maxLen at hx hy
  have c0 : decide (200 < (x.size : Int)) = true := decide_eq_true (by omega)
  have c1 : decide (200 < x.size) = true := decide_eq_true (by omega)
  go_enter Try.func6, Try.ntmps6
  go_wp2
  go_ret
  exact ⟨rfl, below_alloc (Below.refl _ _) _⟩
set_option maxRecDepth 100000 in
theorem walk_long2 (n : Int) (x y : ByteArray) (w : World) (hx : x.size ≤ maxLen) (hy : y.size ≤ maxLen) (hxs : x.size ≤ 200) (h : 200 < y.size) :
    Calls Try.prog 6 #[.int .i64 n, .agg #[.string x, .string y]] w fun e w' => e = .returned (.bool true) ∧ Below w.heap.size w w' := by
  unfold maxLen at hx hy
  have b0 : decide (200 < (x.size : Int)) = false := decide_eq_false (by omega)
  have b1 : decide (200 < x.size) = false := decide_eq_false (by omega)
  have c0 : decide (200 < (y.size : Int)) = true := decide_eq_true (by omega)
  have c1 : decide (200 < y.size) = true := decide_eq_true (by omega)
  go_enter Try.func6, Try.ntmps6
  go_wp2
  go_ret
  exact ⟨rfl, below_alloc (Below.refl _ _) _⟩
set_option maxRecDepth 100000 in
theorem walk_pos (n : Int) (x y a b : ByteArray) (k : Nat) (w : World) (n0 : 0 ≤ n) (n1 : n ≤ 9223372036854775807) (hx : x.size ≤ 200) (hy : y.size ≤ 200) (ha : a.size ≤ 10) (hb0 : 1 ≤ b.size) (hb1 : b.size ≤ 10) (hne : (a.toList == ([] : List UInt8)) = false) (hne' : a.toList.isEmpty = false)
    (HP : Aside0 (ints_Put.f k n = some a)) (HI : Aside0 (ints_PutInt.f k n = some b)) (HG : Aside0 (ints_Get.f k (x ++ a ++ y) (x.size : Int) = some (n, (x.size + a.size : Int), true))) (HJ : Aside0 (ints_GetInt.f k (x ++ b ++ y) (x.size : Int) = some (n, (x.size + b.size : Int), true)))
    (HD : Aside0 (carousellaw01_does.f k = some true)) :
    Calls Try.prog 6 #[.int .i64 n, .agg #[.string x, .string y]] w fun e w' => e = .returned (.bool true) ∧ Below w.heap.size w w' := by
  have HB := Aside0.mk (Below.refl w.heap.size w)
  have c0 : decide (200 < (x.size : Int)) = false := decide_eq_false (by omega)
  have c1 : decide (200 < x.size) = false := decide_eq_false (by omega)
  have c2 : decide (200 < (y.size : Int)) = false := decide_eq_false (by omega)
  have c3 : decide (200 < y.size) = false := decide_eq_false (by omega)
  go_enter Try.func6, Try.ntmps6
  go_wp2_with (first | ((with_reducible refine gate_callee (f := 10) rfl ?_); refine goesL_ (some 25) rfl rfl Try.func10 (by kernel_rfl) rfl #[.int .i64 n] rfl (by (try simp only [List.map_toArray, List.map_cons, List.map_nil]); first | done | rfl) ?_; (with_reducible refine (ints_Put.calls k n a _ HP.out).mono ?_); rintro e w1 ⟨rfl, hb⟩; refine ⟨_, rfl, ?_⟩; have d0 := pw_cell_below hb (v := .string x) (a := ⟨w.heap.size, 0, none⟩) (by simp); have d1 := pw_cell_below hb (v := .string y) (a := ⟨w.heap.size, 1, none⟩) (by simp); have n0_ := Aside0.mk (below_step (by repeat (first | (with_reducible first | exact HB.out | apply below_alloc | apply pw_below_drewN | apply below_drew1) | exact HB.out)) hb); clear HB; have HB := n0_; clear n0_; clear hb) | ((with_reducible refine gate_callee (f := 12) rfl ?_); refine goesL_ (some 27) rfl rfl Try.func12 (by kernel_rfl) rfl #[.int .i64 n] rfl (by (try simp only [List.map_toArray, List.map_cons, List.map_nil]); first | done | rfl) ?_; (with_reducible refine (ints_PutInt.calls k n b _ HI.out).mono ?_); rintro e w2 ⟨rfl, hb⟩; refine ⟨_, rfl, ?_⟩; have d0' := pw_cell_below hb d0; have d1' := pw_cell_below hb d1; clear d0 d1; have d0 := d0'; have d1 := d1'; clear d0' d1'; have n0_ := Aside0.mk (below_step (by repeat (first | (with_reducible first | exact HB.out | apply below_alloc | apply pw_below_drewN | apply below_drew1) | exact HB.out)) hb); clear HB; have HB := n0_; clear n0_; clear hb) | ((with_reducible refine gate_callee (f := 15) rfl ?_); refine goesL_ (some 40) rfl rfl Try.func15 (by kernel_rfl) rfl #[.string (x ++ a ++ y), .int .i64 (x.size : Int)] rfl (by (try simp only [List.map_toArray, List.map_cons, List.map_nil]); first | done | rfl) ?_; (with_reducible refine (ints_Get.calls k _ _ n (x.size + a.size : Int) true _ HG.out).mono ?_); rintro e w3 ⟨rfl, hb⟩; refine ⟨_, rfl, ?_⟩; have d0' := pw_cell_below hb d0; have d1' := pw_cell_below hb d1; clear d0 d1; have d0 := d0'; have d1 := d1'; clear d0' d1'; have n0_ := Aside0.mk (below_step (by repeat (first | (with_reducible first | exact HB.out | apply below_alloc | apply pw_below_drewN | apply below_drew1) | exact HB.out)) hb); clear HB; have HB := n0_; clear n0_; clear hb) | ((with_reducible refine gate_callee (f := 17) rfl ?_); refine goesL_ (some 53) rfl rfl Try.func17 (by kernel_rfl) rfl #[.string (x ++ b ++ y), .int .i64 (x.size : Int)] rfl (by (try simp only [List.map_toArray, List.map_cons, List.map_nil]); first | done | rfl) ?_; (with_reducible refine (ints_GetInt.calls k _ _ n (x.size + b.size : Int) true _ HJ.out).mono ?_); rintro e w4 ⟨rfl, hb⟩; refine ⟨_, rfl, ?_⟩; clear d0 d1; have n0_ := Aside0.mk (below_step (by repeat (first | (with_reducible first | exact HB.out | apply below_alloc | apply pw_below_drewN | apply below_drew1) | exact HB.out)) hb); clear HB; have HB := n0_; clear n0_; clear hb) | (go_at_call 14; (with_reducible refine (carousellaw01_does.calls k true _ HD.out).mono ?_); rintro e w5 ⟨rfl, hb⟩; have n0_ := Aside0.mk (below_step (by repeat (first | (with_reducible first | exact HB.out | apply below_alloc | apply pw_below_drewN | apply below_drew1) | exact HB.out)) hb); clear HB; have HB := n0_; clear n0_; clear hb))
  go_ret
  exact ⟨by first | rfl | simp [*], HB.out⟩
set_option maxRecDepth 100000 in
theorem walk_neg (n : Int) (x y b : ByteArray) (m next : Int) (ok : Bool) (k : Nat) (w : World) (n0 : n < 0) (n1 : -9223372036854775808 ≤ n) (hx : x.size ≤ 200) (hy : y.size ≤ 200) (hb0 : 1 ≤ b.size) (hb1 : b.size ≤ 10)
    (HP : Aside0 (ints_Put.f k n = some (⟨#[]⟩ : ByteArray))) (HI : Aside0 (ints_PutInt.f k n = some b)) (HG : Aside0 (ints_Get.f k (x ++ (⟨#[]⟩ : ByteArray) ++ y) (x.size : Int) = some (m, next, ok))) (HJ : Aside0 (ints_GetInt.f k (x ++ b ++ y) (x.size : Int) = some (n, (x.size + b.size : Int), true)))
    (HD : Aside0 (carousellaw01_does.f k = some true)) :
    Calls Try.prog 6 #[.int .i64 n, .agg #[.string x, .string y]] w fun e w' => e = .returned (.bool true) ∧ Below w.heap.size w w' := by
  have HB := Aside0.mk (Below.refl w.heap.size w)
  have c0 : decide (200 < (x.size : Int)) = false := decide_eq_false (by omega)
  have c1 : decide (200 < x.size) = false := decide_eq_false (by omega)
  have c2 : decide (200 < (y.size : Int)) = false := decide_eq_false (by omega)
  have c3 : decide (200 < y.size) = false := decide_eq_false (by omega)
  go_enter Try.func6, Try.ntmps6
  go_wp2_with (first | ((with_reducible refine gate_callee (f := 10) rfl ?_); refine goesL_ (some 25) rfl rfl Try.func10 (by kernel_rfl) rfl #[.int .i64 n] rfl (by (try simp only [List.map_toArray, List.map_cons, List.map_nil]); first | done | rfl) ?_; (with_reducible refine (ints_Put.calls k n (⟨#[]⟩ : ByteArray) _ HP.out).mono ?_); rintro e w1 ⟨rfl, hb⟩; refine ⟨_, rfl, ?_⟩; have d0 := pw_cell_below hb (v := .string x) (a := ⟨w.heap.size, 0, none⟩) (by simp); have d1 := pw_cell_below hb (v := .string y) (a := ⟨w.heap.size, 1, none⟩) (by simp); have n0_ := Aside0.mk (below_step (by repeat (first | (with_reducible first | exact HB.out | apply below_alloc | apply pw_below_drewN | apply below_drew1) | exact HB.out)) hb); clear HB; have HB := n0_; clear n0_; clear hb) | ((with_reducible refine gate_callee (f := 12) rfl ?_); refine goesL_ (some 27) rfl rfl Try.func12 (by kernel_rfl) rfl #[.int .i64 n] rfl (by (try simp only [List.map_toArray, List.map_cons, List.map_nil]); first | done | rfl) ?_; (with_reducible refine (ints_PutInt.calls k n b _ HI.out).mono ?_); rintro e w2 ⟨rfl, hb⟩; refine ⟨_, rfl, ?_⟩; have d0' := pw_cell_below hb d0; have d1' := pw_cell_below hb d1; clear d0 d1; have d0 := d0'; have d1 := d1'; clear d0' d1'; have n0_ := Aside0.mk (below_step (by repeat (first | (with_reducible first | exact HB.out | apply below_alloc | apply pw_below_drewN | apply below_drew1) | exact HB.out)) hb); clear HB; have HB := n0_; clear n0_; clear hb) | ((with_reducible refine gate_callee (f := 15) rfl ?_); refine goesL_ (some 40) rfl rfl Try.func15 (by kernel_rfl) rfl #[.string (x ++ (⟨#[]⟩ : ByteArray) ++ y), .int .i64 (x.size : Int)] rfl (by (try simp only [List.map_toArray, List.map_cons, List.map_nil]); first | done | rfl) ?_; (with_reducible refine (ints_Get.calls k _ _ m next ok _ HG.out).mono ?_); rintro e w3 ⟨rfl, hb⟩; refine ⟨_, rfl, ?_⟩; have d0' := pw_cell_below hb d0; have d1' := pw_cell_below hb d1; clear d0 d1; have d0 := d0'; have d1 := d1'; clear d0' d1'; have n0_ := Aside0.mk (below_step (by repeat (first | (with_reducible first | exact HB.out | apply below_alloc | apply pw_below_drewN | apply below_drew1) | exact HB.out)) hb); clear HB; have HB := n0_; clear n0_; clear hb) | ((with_reducible refine gate_callee (f := 17) rfl ?_); refine goesL_ (some 53) rfl rfl Try.func17 (by kernel_rfl) rfl #[.string (x ++ b ++ y), .int .i64 (x.size : Int)] rfl (by (try simp only [List.map_toArray, List.map_cons, List.map_nil]); first | done | rfl) ?_; (with_reducible refine (ints_GetInt.calls k _ _ n (x.size + b.size : Int) true _ HJ.out).mono ?_); rintro e w4 ⟨rfl, hb⟩; refine ⟨_, rfl, ?_⟩; clear d0 d1; have n0_ := Aside0.mk (below_step (by repeat (first | (with_reducible first | exact HB.out | apply below_alloc | apply pw_below_drewN | apply below_drew1) | exact HB.out)) hb); clear HB; have HB := n0_; clear n0_; clear hb) | (go_at_call 14; (with_reducible refine (carousellaw01_does.calls k true _ HD.out).mono ?_); rintro e w5 ⟨rfl, hb⟩; have n0_ := Aside0.mk (below_step (by repeat (first | (with_reducible first | exact HB.out | apply below_alloc | apply pw_below_drewN | apply below_drew1) | exact HB.out)) hb); clear HB; have HB := n0_; clear n0_; clear hb))
  go_ret
  exact ⟨by first | rfl | simp [*], HB.out⟩
/-- An array of two texts that came in: its value, its reading; and back. -/
theorem open_arr2str {P : Program} {H : Type} {enc : TypeId × Value → H} {W : World} {b0 : Nat} {r : Reach} {base : Nat} {sp : Nat → Bool} {held : Bool} {t e : TypeId} {v : Value} {d : DataW H} {p : List MemPlace} (ht : P.underlying t = some (.array 2 e)) (he : P.underlying e = some .string) (hC : P.cellsOf t = 2) (hE : P.cellsOf e = 1)
    (hv : Value.okWide P W r b0 t v) (h : DataW.Trod enc P W base sp held t v d p) :
    ∃ x y : ByteArray, v = .agg #[.string x, .string y] ∧ d = .agg [.lit (.string x.data.toList), .lit (.string y.data.toList)] ∧ p = [] ∧ x.size ≤ maxLen ∧ y.size ≤ maxLen := by
  obtain ⟨cs, rfl, hsz, _⟩ : ∃ cs, v = .agg cs ∧ cs.size = P.cellsOf t ∧ Row.okWide P W r b0 t cs := by
    simpa [Value.okWide, ht] using hv
  rw [hC] at hsz
  obtain ⟨l⟩ := cs
  obtain ⟨c0, c1, rfl⟩ : ∃ c0 c1, l = [c0, c1] := by
    match l, hsz with
    | [c0, c1], _ => exact ⟨c0, c1, rfl⟩
  obtain ⟨fuel, hf⟩ := h
  obtain ⟨xs, m, _, hx, _, hl, hel⟩ := DataW.trod_array ht hf
  match xs, hl with
  | [y0, y1], _ =>
    have h0 := hel 0 (by omega)
    have h1 := hel 1 (by omega)
    simp only [Value.cells, hE, Nat.zero_mul, Nat.one_mul, List.drop_zero, List.take_succ_cons, List.take_zero, List.drop_succ_cons] at h0 h1
    obtain ⟨x, e0, z0, s0⟩ := DataW.trod_string he h0
    obtain ⟨y, e1, z1, s1⟩ := DataW.trod_string he h1
    simp only [List.cons.injEq, and_true] at e0 e1
    subst e0 e1 z0 z1
    simp only [Prod.mk.injEq, List.map_cons, List.map_nil, List.flatMap_cons, List.flatMap_nil, List.append_nil] at hx
    exact ⟨x, y, rfl, hx.1, hx.2, s0, s1⟩
theorem shut_arr2str {P : Program} {H : Type} {enc : TypeId × Value → H} {W : World} {base : Nat} {sp : Nat → Bool} {held : Bool} {t e : TypeId} {x y : ByteArray} (ht : P.underlying t = some (.array 2 e)) (he : P.underlying e = some .string) (hC : P.cellsOf t = 2) (hE : P.cellsOf e = 1) (hx : x.size ≤ maxLen) (hy : y.size ≤ maxLen) :
    DataW.Trod enc P W base sp held t (.agg #[.string x, .string y]) (.agg [.lit (.string x.data.toList), .lit (.string y.data.toList)]) [] :=
  ⟨2, by simp [DataW.trod, Value.cells, ht, he, hC, hE, hx, hy, show List.range 2 = [0, 1] from rfl]⟩

theorem stands_mid (x y : ByteArray) (u : Nat) (hu : u < 18446744073709551616) : StandsAt (x ++ encB u ++ y) (x.size : Int) u y.data.toList := by
  refine ⟨by omega, ?_, hu, ?_⟩
  · rw [ByteArray.size_append, ByteArray.size_append]; omega
  · rw [ByteArray.data_append, ByteArray.data_append, Array.toList_append, Array.toList_append, Int.toNat_natCast, ← data_length, List.append_assoc, List.drop_left]
    rfl
theorem mid_size (x y : ByteArray) (u : Nat) : ((x ++ encB u ++ y).size : Int) - y.data.toList.length = x.size + (encB u).size := by
  rw [ByteArray.size_append, ByteArray.size_append, data_length]; omega
theorem walk (n : Int) (x y : ByteArray) (w : World) (n0 : -9223372036854775808 ≤ n) (n1 : n ≤ 9223372036854775807) (hx : x.size ≤ maxLen) (hy : y.size ≤ maxLen) :
    Calls Try.prog 6 #[.int .i64 n, .agg #[.string x, .string y]] w fun e w' => e = .returned (.bool true) ∧ Below w.heap.size w w' := by
  by_cases h1 : 200 < x.size
  · exact walk_long n x y w hx hy h1
  by_cases h2 : 200 < y.size
  · exact walk_long2 n x y w hx hy (by omega) h2
  have hz := zig_lt n0 n1
  have hs : ∀ u, u < 18446744073709551616 → (x ++ encB u ++ y).size ≤ 140737488351232 := by
    intro u hu
    have := enc_len10 hu
    rw [ByteArray.size_append, ByteArray.size_append, encB_size]
    omega
  have HJ : ints_GetInt.f 40 (x ++ encB (zig n) ++ y) (x.size : Int) = some (n, (x.size + (encB (zig n)).size : Int), true) := by
    rw [GetInt_at _ (hs _ hz) _ 40 (by omega), getIntR_yes (stands_mid x y (zig n) hz), mid_size, zag_zig]
  have hb0 : 1 ≤ (encB (zig n)).size := by rw [encB_size]; exact enc_pos _
  have hb1 : (encB (zig n)).size ≤ 10 := by rw [encB_size]; exact enc_len10 hz
  by_cases h : n < 0
  · obtain ⟨⟨m, next, ok⟩, hG⟩ : ∃ r, ints_Get.f 40 (x ++ (⟨#[]⟩ : ByteArray) ++ y) (x.size : Int) = some r := by
      refine ⟨_, Get_at _ ?_ _ 40 (by omega)⟩
      rw [ByteArray.size_append, ByteArray.size_append]
      show x.size + 0 + y.size ≤ _
      omega
    exact walk_neg n x y (encB (zig n)) m next ok 40 w h n0 (by omega) (by omega) hb0 hb1 ⟨Put_neg h 40⟩ ⟨PutInt_at n0 n1 40 (by omega)⟩ ⟨hG⟩ ⟨HJ⟩ ⟨does_at (by omega)⟩
  · have hn : n.toNat < 18446744073709551616 := by omega
    have HG : ints_Get.f 40 (x ++ encB n.toNat ++ y) (x.size : Int) = some (n, (x.size + (encB n.toNat).size : Int), true) := by
      rw [Get_at _ (hs _ hn) _ 40 (by omega), getR_yes (stands_mid x y n.toNat hn) (by omega), mid_size, Int.toNat_of_nonneg (by omega)]
    have ha : ((encB n.toNat).toList == ([] : List UInt8)) = false := by rw [encB_toList]; simpa using enc_ne n.toNat
    have ha' : (encB n.toNat).toList.isEmpty = false := by rw [encB_toList]; simpa using enc_ne n.toNat
    exact walk_pos n x y (encB n.toNat) (encB (zig n)) 40 w (by omega) n1 (by omega) (by omega) (by rw [encB_size]; exact enc_len10 hn) hb0 hb1 ha ha' ⟨Put_at (by omega) n1 40 (by omega)⟩ ⟨PutInt_at n0 n1 40 (by omega)⟩ ⟨HG⟩ ⟨HJ⟩ ⟨does_at (by omega)⟩
theorem own : ownKnob Try.prog.godebug = none := by kernel_rfl
theorem cells31 : Try.prog.cellsOf 31 = 2 := by kernel_rfl
theorem cells9 : Try.prog.cellsOf 9 = 1 := by kernel_rfl
set_option maxRecDepth 100000 in
theorem lifted (os : Os) (started : os.Started) (H : Type) (enc : TypeId × Value → H) :
    ReturnsInHanded {} Try.checked os 6 .any (Rows.intsBackSpec.pre6 enc Try.prog Try.f6 Rows.intsBackRow.domain false) (Rows.intsBackSpec.post enc Try.prog Try.f6 false true false false) := by
  refine returnsInHanded_of_change_sized (C := Try.checked) own started (by kernel_rfl) Try.func6
    (ChangeSpec.witness6 (enc := enc) (C := Try.checked) false ⟨#[], #[.int .i64 0, .agg #[.string ByteArray.empty, .string ByteArray.empty]], []⟩ 8 (by kernel_rfl) (by kernel_rfl) (by kernel_rfl) (by kernel_rfl)) ?_
  intro W base args ds gs before hval0 hW hcnd hsz0 _
  have hval : ∀ (j : Nat) t v, Try.f6.params[j]? = some t → args[j]? = some v → Value.okWide Try.prog W .any base t v := hval0
  have hW' := hW
  obtain ⟨p, q, hA0, hV, rfl, hfz, hnd⟩ := hW
  have hA : DataW.TrodAll enc Try.prog W 0 (fun _ => true) true Try.f6.params.toList args.toList ds p := hA0
  rw [Try.params6] at hA hval
  obtain ⟨v0, vs0, d0, ds0, p0, q0, hargs, rfl, rfl, h0, r0⟩ := trodAll_cons hA
  obtain ⟨v1, vs1, d1, ds1, p1, q1, rfl, rfl, rfl, h1, r1⟩ := trodAll_cons r0
  obtain ⟨rfl, rfl, rfl⟩ := trodAll_nil r1
  obtain rfl : args = #[v0, v1] := by cases args; simp_all
  obtain ⟨rfl, rfl⟩ := trodVars_none hV
  obtain ⟨a0, rfl, rfl, rfl, w0⟩ := open_int Try.underlying3 (hval 0 3 v0 rfl rfl) h0
  obtain ⟨x, y, rfl, rfl, rfl, hx, hy⟩ := open_arr2str Try.underlying31 Try.underlying9 cells31 cells9 (hval 1 31 v1 rfl rfl) h1
  clear hA0 hval0 hsz0
  refine (walk a0 x y W (bounds_i64 w0).1 (bounds_i64 w0).2 hx hy).mono fun e W' ⟨he, bel⟩ => ?_
  subst he
  exact ⟨_, rfl, _, _, _, [], _, [], hW', trodAll_mk1 (shut_bool Try.underlying4 _), (trodAll_cons_mk (shut_int Try.underlying3 w0) (trodAll_cons_mk (shut_arr2str Try.underlying31 Try.underlying9 cells31 cells9 hx hy) trodAll_mk0)), rfl, bel.frame _, fun h => by cases h⟩
theorem over : Rows.intsBackRow.holds Try.pinned (OpenSpec.ofChange Rows.intsBackSpec) :=
  OpenClaim.holds_of_wide 6 Try.f6 rfl rfl rfl rfl rfl rfl rfl ⟨rfl, rfl, rfl, rfl, rfl⟩ rfl rfl rfl rfl rfl (by kernel_rfl) Try.func6 (by kernel_rfl)
    (of_decide_eq_true (by kernel_rfl)) (by unfold Func.isWrapper; first | (rw [if_pos (by decide +kernel)]; kernel_rfl) | (rw [if_neg (by decide +kernel)]; exact ⟨rfl, rfl⟩))
    (fun os started H enc _ => lifted os started H enc)
theorem proved : Rows.IntsBackSaid := over
end Go.Proofs.Ytcffpbldphmpoaa.intsBack
namespace Go.Proofs.Ytcffpbldphmpoaa
/-- The row, under a short name, for the claim. -/
theorem intsBack_holds : Rows.IntsBackSaid := intsBack.proved
end Go.Proofs.Ytcffpbldphmpoaa
