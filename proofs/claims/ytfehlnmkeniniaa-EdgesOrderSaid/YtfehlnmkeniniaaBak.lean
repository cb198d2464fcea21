/- EdgesBack, walked. Conditions: the list lies readable. -/
import Derived.Deep.CutBlock
import Derived.Test.YtfehlnmkeniniaaBck
namespace Go.Proofs.Ytfehlnmkeniniaa.E
open Go.RowKit Go.Sort Go.Shelf
open Go.Proofs.Ytfehlnmkeniniaa.Ma
set_option linter.unusedVariables false
set_option linter.unusedSimpArgs false
theorem c_rev2 {A : Option Addr} {c n : Nat} {L R : List Ed} {w : World} (hR : rvs L = R) (hL : Lies enc2 2 w A L) (hn : L.length = n) (hlen : L.length ≤ 500000) : Calls Try.prog 16 #[.slice A n c] w fun e w' => ∃ A' c', e = .returned (.slice A' n c') ∧ Lies enc2 2 w' A' R ∧ ((A' = none → c' = 0) ∧ n ≤ c' ∧ c' ≤ 9223372036854775807) ∧ Below w.heap.size w w' := by
  subst hn
  refine (reverse_at A c L w hL hlen).mono fun e w' ⟨A', c', he, hr, hb⟩ => ?_
  have hl := rvs_len L
  have h2 := hr.2
  obtain ⟨_, _, e', h3, h4⟩ := row_open enc2_len hr
  cases e'
  refine ⟨A', c', he, ?_, ⟨fun hA => ?_, h3, h4⟩, hb⟩
  · rw [← hl, hR] at hr
    exact row_lies enc2_len hr
  · subst hA
    rcases h2 with ⟨e2, _⟩ | ⟨g, cap, cur, e2, _⟩
    · injection e2
    · cases e2
theorem row_cap6 {w : World} {B n c : Nat} {A : Option Addr} {xs : List Value} (h : w.ownsRow B 24 2 (.slice A n c) n xs) : n ≤ c ∧ c ≤ 9223372036854775807 := by
  obtain ⟨_, _, e, h1, h2⟩ := row_open enc2_len h
  cases e
  exact ⟨h1, h2⟩
theorem lies_take {w : World} {A : Option Addr} {K : List Ed} (h : Lies enc2 2 w A K) (n : Nat) : Lies enc2 2 w A (K.take n) := h.take n
theorem lies_drop {w : World} {b o : Nat} {K : List Ed} (h : Lies enc2 2 w (some ⟨b, o, none⟩) K) (m : Nat) : ∀ j u, (cellsK enc2 (K.drop m))[j]? = some u → w.cell? ((⟨b, o + m * 2, none⟩ : Addr).add j) = some u := fun j u hu =>
  lies_news (n := K.length) enc2_len h (Below.refl _ _) m j u (by rw [List.take_of_length_le (by rw [List.length_drop]; omega)]; exact hu)
attribute [local irreducible] wpQuiet
set_option maxRecDepth 100000 in
set_option maxHeartbeats 8000000 in
theorem back_at (A : Option Addr) (len cap : Nat) (L : List Ed) (w : World) (hl : len ≤ 400) (hlen : L.length = len) (hL : Lies enc2 2 w A L) : Calls Try.prog 5 #[.slice A len cap] w fun e w' => e = .returned (.bool true) ∧ Below w.heap.size w w' := by
  subst hlen
  have HL := Lib.hid hL
  have HLen := Lib.hid hl
  have HL5 := Lib.hid (show L.length ≤ 500000 by omega)
  have h3 : ¬ (400 : Int) < L.length := by omega
  obtain ⟨R0, hR0⟩ : ∃ R, rvs L = R := ⟨_, rfl⟩
  obtain ⟨B0, hB0⟩ : ∃ R, rvs R0 = R := ⟨_, rfl⟩
  have HR0 := Lib.hid hR0
  have HB0 := Lib.hid hB0
  have LR := Lib.hid (show R0.length = L.length by rw [← hR0, rvs_len])
  have LB := Lib.hid (show B0.length = L.length by rw [← hB0, rvs_len, LR.out])
  have LR5 := Lib.hid (show R0.length ≤ 500000 by rw [LR.out]; omega)
  have HOr := Lib.hid (show Order R0 by rw [← hR0]; exact rvs_order L)
  have HPm := Lib.hid (show B0.Perm L by rw [← hB0, ← hR0]; exact rvs2 L)
  clear hL hR0 hB0
  go_enter Try.func5, Try.ntmps5
  go_wp2_with (go_at_call 16; refine (c_rev2 HR0.out HL.out rfl HL5.out).mono ?_; rintro e w1 ⟨Ar, cr, rfl, h1, _, hb⟩; have La1 := Lib.hid h1; have BW1 := Lib.hid hb; clear h1 hb)
  go_loopw [4] (fun i wr => ∃ k m : Nat, 1 ≤ k ∧ k ≤ L.length + 1 ∧ i = .int .i64 k ∧ wr = w1.drewN m) (fun i _ => L.length + 1 - (intOf i).toNat)
  case atStart => exact ⟨1, 0, by omega, by omega, rfl, rfl⟩
  case round =>
    obtain ⟨k, m, hk1, hk, rfl, rfl⟩ := hrel
    by_cases hlt : k < L.length
    · obtain ⟨q, rfl⟩ : ∃ q, k = q + 1 := ⟨k - 1, by omega⟩
      obtain ⟨⟨y1, y2⟩, hy⟩ : ∃ p, R0[q]? = some p := ⟨R0[q]'(by rw [LR.out]; omega), List.getElem?_eq_getElem _⟩
      obtain ⟨⟨z1, z2⟩, hz⟩ : ∃ p, R0[q + 1]? = some p := ⟨R0[q + 1]'(by rw [LR.out]; omega), List.getElem?_eq_getElem _⟩
      have ho : ¬ Ahead (z1, z2) (y1, y2) := by
        have h1 := List.getElem?_eq_some_iff.1 hy
        have h2 := List.getElem?_eq_some_iff.1 hz
        have := List.pairwise_iff_getElem.1 HOr.out q (q + 1) h1.1 h2.1 (by omega)
        rw [h1.2, h2.2] at this
        exact this
      have hcase : y1 < z1 ∨ (y1 = z1 ∧ ¬ z2 < y2) := by unfold Ahead at ho; dsimp only at ho; omega
      obtain ⟨b, o, rfl, hb, q0, q1⟩ := lies2 La1.out hy
      obtain ⟨_, _, eb, _, r0, r1⟩ := lies2 La1.out hz
      cases eb
      have i1 : ((q + 1 : Nat) : Int) < (L.length : Int) := by omega
      have i2 : ((q + 1 : Nat) : Int) - 1 = (q : Int) := by omega
      have i3 : (q : Int) < (L.length : Int) := by omega
      have i5 : IntKind.i64.wrap (q : Int) = (q : Int) := wrapq (by omega)
      have HLt := Lib.hid hlt
      clear hy hz ho hb hlt
      rcases hcase with h1 | ⟨rfl, h1⟩
      · have e1 : decide (z1 < y1) = false := by simp; omega
        have e2 : (y1 == z1) = false := by simp; omega
        clear h1
        go_wp2
        go_quiet (fail)
        go_wp2
        go_roundw
        case rel => exact ⟨q + 1 + 1, _, by omega, by have := HLt.out; omega, by go_num, rfl⟩
        case measure => simp [intOf]; omega
      · have e1 : decide (y1 < y1) = false := by simp
        have e2 : decide (z2 < y2) = false := by simpa using h1
        clear h1
        go_wp2
        go_quiet (fail)
        go_wp2
        go_roundw
        case rel => exact ⟨q + 1 + 1, _, by omega, by have := HLt.out; omega, by go_num, rfl⟩
        case measure => simp [intOf]; omega
    · have HLk := Lib.hid hk
      have LaD := Lib.hid (show Lies enc2 2 (w1.drewN m) Ar R0 from La1.out)
      have BWD := Lib.hid (show Below w.heap.size w (w1.drewN m) from Fresh.below BW1.out (below_drew w1 m))
      clear hk
      generalize w1.drewN m = W1 at LaD BWD ⊢
      go_upto_region 12 with (go_at_call 16; refine (c_rev2 HB0.out LaD.out LR.out LR5.out).mono ?_; rintro e w2 ⟨Ab, cb, rfl, h1, h2, hb⟩; have Lb2 := Lib.hid h1; have Hcb := Lib.hid h2; have BW2 := Lib.hid (Fresh.below BWD.out hb); clear h1 h2 hb)
      go_cut [6] from 68 to 115 (fun s wx => ∃ A6 c6, s = .slice A6 L.length c6 ∧ (L.length ≤ c6 ∧ c6 ≤ 9223372036854775807) ∧ Lies enc2 2 wx A6 B0 ∧ Lies enc2 2 wx Ab B0 ∧ Below w.heap.size w wx)
      case first =>
        have HE := Lib.hid (show [] ++ B0 = B0 from rfl)
        have LB2 := Lib.hid (show B0.length ≤ 2000000 by rw [LB.out]; omega)
        rcases Ab with _ | ad
        · obtain rfl := Hcb.out.1 rfl
          obtain rfl : L = [] := List.length_eq_zero_iff.1 (by have := Hcb.out.2.1; omega)
          simp only [List.length_nil, Int.natCast_zero, Int.ofNat_zero]
          go_wp2_with (at_builtin; refine wp_app0 rfl _ _ rfl w2.heap.size [] (.slice none 0 0) rfl (World.ownsRow_nil _ _ _ _) rfl ?_)
          go_meet
          exact ⟨_, _, rfl, ⟨Nat.le_refl _, by omega⟩, Lb2.out, Lb2.out, BW2.out⟩
        · go_wp2_with (at_builtin; refine wp_app rfl _ _ rfl w2.heap.size [] B0 B0 HE.out (.slice none 0 0) rfl (World.ownsRow_nil _ _ _ _) ad _ _ rfl LB.out (lies_src Lb2.out (Below.refl _ _)) LB2.out (Nat.le_refl _) ?_; intro A3 c3 w3 hr3 hf3; have HO3 := Lib.hid hr3; have HB3 := Lib.hid (hf3.below (Nat.le_refl _) (fun i e => by cases e)); clear hr3 hf3)
          go_meet
          have h6 := row_cap6 HO3.out
          rw [LB.out] at h6
          exact ⟨A3, c3, by rw [LB.out], h6, row_lies enc2_len HO3.out, lies_to Lb2.out HB3.out, Fresh.below BW2.out HB3.out⟩
      case rest =>
        obtain ⟨A6, c6, rfl, hc6, hl6, hlb, hb6⟩ := hcut
        have HC6 := Lib.hid hc6
        have L6 := Lib.hid hl6
        have Lb6 := Lib.hid hlb
        have BW6 := Lib.hid hb6
        clear hc6 hl6 hlb hb6
        go_wp2
        go_loopw [6, 7] (fun s i wr => ∃ (k : Nat) (A7 : Option Addr) (c7 : Nat) (K : List Ed), k ≤ L.length ∧ i = .int .i64 k ∧ s = .slice A7 K.length c7 ∧ (K.length ≤ c7 ∧ c7 ≤ 9223372036854775807) ∧ K.Perm (L.drop k) ∧ Lies enc2 2 wr A7 K ∧ Below wc.heap.size wc wr) (fun _ i _ => L.length - (intOf i).toNat)
        case atStart => exact ⟨0, A6, c6, B0, by omega, rfl, by rw [LB.out], by rw [LB.out]; exact HC6.out, by rw [List.drop_zero]; exact HPm.out, L6.out, Below.refl _ _⟩
        case round =>
          obtain ⟨k, A7, c7, K, hk, rfl, rfl, hc7, hp7, hl7, hb7⟩ := hrel
          have HC7 := Lib.hid hc7
          have HP7 := Lib.hid hp7
          have L7 := Lib.hid hl7
          have BW7 := Lib.hid hb7
          have HKl := Lib.hid (show K.length = L.length - k by rw [hp7.length_eq, List.length_drop])
          clear hc7 hp7 hl7 hb7
          by_cases hkl : k < L.length
          · obtain ⟨⟨x1, x2⟩, hx⟩ : ∃ p, L[k]? = some p := ⟨L[k], List.getElem?_eq_getElem _⟩
            obtain ⟨bl, ol, rfl, _, q0, q1⟩ := lies2 (HL.out.below (Fresh.below BW6.out BW7.out) (Nat.le_refl _)) hx
            have hdr : L.drop k = (x1, x2) :: L.drop (k + 1) := by
              rw [← (List.getElem?_eq_some_iff.1 hx).2, List.getElem_cons_drop]
            have HDr := Lib.hid (hdr ▸ HP7.out)
            have i1 : (k : Int) < (L.length : Int) := by omega
            have hKl : K.length ≤ 400 := by have := HKl.out; omega
            clear hx hdr
            go_wp2
            go_loopw [8, 9] (fun a i wi => ∃ (j m : Nat) (at_ : Int), j ≤ K.length ∧ i = .int .i64 j ∧ a = .int .i64 at_ ∧ wi = wr.drewN m ∧ ((at_ = -1 ∧ ∀ t, t < j → K[t]? ≠ some (x1, x2)) ∨ (∃ t : Nat, at_ = t ∧ t < j ∧ K[t]? = some (x1, x2)))) (fun _ i _ => K.length - (intOf i).toNat)
            case atStart => exact ⟨0, 0, -1, by omega, rfl, rfl, rfl, .inl ⟨rfl, fun t ht => by omega⟩⟩
            case round =>
              obtain ⟨j, m, at_, hj, rfl, rfl, rfl, hat⟩ := hrel
              have HAt := Lib.hid hat
              clear hat
              by_cases hjl : j < K.length
              · obtain ⟨⟨z1, z2⟩, hz⟩ : ∃ p, K[j]? = some p := ⟨K[j], List.getElem?_eq_getElem _⟩
                obtain ⟨bk, ok, rfl, _, r0, r1⟩ := lies2 L7.out hz
                have i2 : (j : Int) < (K.length : Int) := by omega
                have HZ := Lib.hid hz
                have HJ := Lib.hid hjl
                have eq := eq24 z1 z2 x1 x2
                by_cases hzx : (z1, z2) = (x1, x2)
                · have hz' := hzx ▸ hz
                  have HZ' := Lib.hid hz'
                  rw [show decide (z1 = x1 ∧ z2 = x2) = true by cases hzx; simp] at eq
                  clear hz hjl hzx hz'
                  go_wp2
                  go_quiet (fail)
                  go_wp2
                  go_roundw
                  case rel => exact ⟨j + 1, _, j, by have := HJ.out; omega, by go_num, rfl, rfl, .inr ⟨j, rfl, by omega, HZ'.out⟩⟩
                  case measure => have := HJ.out; simp [intOf]; omega
                · have HN := Lib.hid hzx
                  rw [show decide (z1 = x1 ∧ z2 = x2) = false from decide_eq_false (fun e => hzx (by rw [e.1, e.2]))] at eq
                  clear hz hjl hzx
                  go_wp2
                  go_quiet (fail)
                  go_wp2
                  go_roundw
                  case rel =>
                    refine ⟨j + 1, _, at_, by have := HJ.out; omega, by go_num, rfl, rfl, ?_⟩
                    rcases HAt.out with ⟨h1, h2⟩ | ⟨t, h1, h2, h3⟩
                    · refine .inl ⟨h1, fun t ht => ?_⟩
                      rcases Nat.lt_or_ge t j with h | h
                      · exact h2 t h
                      · obtain rfl : t = j := by omega
                        rw [HZ.out]
                        exact fun e => HN.out (Option.some.inj e)
                    · exact .inr ⟨t, h1, by omega, h3⟩
                  case measure => have := HJ.out; simp [intOf]; omega
              · obtain rfl : j = K.length := by omega
                obtain ⟨t, rfl, ht, hKt⟩ : ∃ t : Nat, at_ = t ∧ t < K.length ∧ K[t]? = some (x1, x2) := by
                  rcases HAt.out with ⟨_, h2⟩ | h
                  · exfalso
                    have hm : (x1, x2) ∈ K := HDr.out.mem_iff.2 List.mem_cons_self
                    obtain ⟨t, ht⟩ := List.getElem?_of_mem hm
                    exact h2 t (List.getElem?_eq_some_iff.1 ht).1 ht
                  · exact h
                obtain ⟨bk, ok, rfl, _, _, _⟩ := lies2 L7.out hKt
                obtain ⟨R, hR⟩ : ∃ R, K.eraseIdx t = R := ⟨_, rfl⟩
                have hRe := hR
                rw [List.eraseIdx_eq_take_drop_succ] at hRe
                have HR := Lib.hid hRe
                have HRp := Lib.hid (show R.Perm (L.drop (k + 1)) from hR ▸ erase_perm HDr.out hKt)
                have hT := Lib.hid (show (K.take t).length = t by rw [List.length_take]; omega)
                have hD := Lib.hid (show (K.drop (t + 1)).length = K.length - (t + 1) by rw [List.length_drop])
                have hsz := Lib.hid (show t + (K.length - (t + 1)) ≤ 2000000 by omega)
                have hKt1 := Lib.hid ht
                have b1 : (t : Int) ≤ (c7 : Int) := by have := HC7.out; omega
                have b2 : ((t : Int) + 1) ≤ (K.length : Int) := by omega
                have b3 : (K.length : Int) ≤ (c7 : Int) := by have := HC7.out; omega
                have b4 : ¬ (t : Int) < 0 := by omega
                have b5 : IntKind.i64.wrap ((t : Int) + 1) = (t : Int) + 1 := wrapq (q := t + 1) (by omega)
                have b6 : ((t : Int) + 1) ≤ (c7 : Int) := by have := HC7.out; omega
                have b7 : 0 ≤ (t : Int) := by omega
                have b8 : 0 ≤ (t : Int) + 1 := by omega
                have b9 : ((t : Int) + 1).toNat = t + 1 := by omega
                clear hR hRe hKt HAt hj hjl ht
                by_cases hct : c7 = t + 1
                · have hD0 := Lib.hid (show K.drop (t + 1) = [] from List.drop_of_length_le (by have := HC7.out; omega))
                  have hsz0 := Lib.hid (show t + 0 ≤ 2000000 by omega)
                  have hD2 := Lib.hid (show (K.drop (t + 1)).length = 0 by rw [hD0.out]; rfl)
                  have hKl1 := Lib.hid (show K.length = t + 1 by have := HC7.out; have := hKt1.out; omega)
                  subst hct
                  have b1' : (t : Int) ≤ (t : Int) + 1 := by omega
                  have b3' : (K.length : Int) ≤ (t : Int) + 1 := by omega
                  have b6' : ((t : Int) + 1) ≤ ((t + 1 : Nat) : Int) := by omega
                  go_wp2
                  refine region_tail 8 (by kernel_rfl) (by kernel_rfl) fun wd hwd => ?_
                  simp only [List.take_succ_cons, List.take_zero, List.drop_succ_cons, List.drop_zero]
                  have HBd := Lib.hid (show Below wr.heap.size wr wd by rw [hwd]; exact (below_drew wr _).drew)
                  clear hwd
                  repeat still_step
                  refine wpStill_nil ?_
                  go_wp2_with (first | (at_builtin; refine wp_lapp rfl _ _ rfl (K.take t) (K.drop (t + 1)) R HR.out ⟨bk, ok, none⟩ t hT.out rfl (lies_take (L7.out.below HBd.out (Nat.le_refl _)) t) _ _ _ hD2.out rfl (news_nil hD0.out _) hsz0.out ?_; intro A8 c8 w8 hc8 hl8 hb8; have HC8 := Lib.hid hc8; have L8 := Lib.hid hl8; have BW8 := Lib.hid (Fresh.below BW7.out (Fresh.below HBd.out hb8)); clear hc8 hl8 hb8) | (at_builtin; refine wp_lapp rfl _ _ rfl (K.take t) (K.drop (t + 1)) R HR.out ⟨bk, ok, none⟩ t hT.out rfl (lies_take (L7.out.below HBd.out (Nat.le_refl _)) t) _ _ _ hD.out rfl (news_nil hD0.out _) hsz.out ?_; intro A8 c8 w8 hc8 hl8 hb8; have HC8 := Lib.hid hc8; have L8 := Lib.hid hl8; have BW8 := Lib.hid (Fresh.below BW7.out (Fresh.below HBd.out hb8)); clear hc8 hl8 hb8))
                  go_roundw
                  case rel => exact ⟨k + 1, A8, c8, R, by omega, by go_num, rfl, HC8.out, HRp.out, L8.out, BW8.out⟩
                  case measure => simp [intOf]; omega
                · go_wp2
                  refine region_tail 8 (by kernel_rfl) (by kernel_rfl) fun wd hwd => ?_
                  simp only [List.take_succ_cons, List.take_zero, List.drop_succ_cons, List.drop_zero]
                  have HBd := Lib.hid (show Below wr.heap.size wr wd by rw [hwd]; exact (below_drew wr _).drew)
                  clear hwd
                  repeat still_step
                  refine wpStill_nil ?_
                  go_wp2_with ((at_builtin; refine wp_lapp rfl _ _ rfl (K.take t) (K.drop (t + 1)) R HR.out ⟨bk, ok, none⟩ t hT.out rfl (lies_take (L7.out.below HBd.out (Nat.le_refl _)) t) ⟨bk, ok + (t + 1) * 2, none⟩ _ _ hD.out rfl (lies_drop (L7.out.below HBd.out (Nat.le_refl _)) (t + 1)) hsz.out ?_; intro A8 c8 w8 hc8 hl8 hb8; have HC8 := Lib.hid hc8; have L8 := Lib.hid hl8; have BW8 := Lib.hid (Fresh.below BW7.out (Fresh.below HBd.out hb8)); clear hc8 hl8 hb8))
                  go_roundw
                  case rel => exact ⟨k + 1, A8, c8, R, by omega, by go_num, rfl, HC8.out, HRp.out, L8.out, BW8.out⟩
                  case measure => simp [intOf]; omega
          · obtain rfl : k = L.length := by omega
            obtain rfl : K = [] := List.length_eq_zero_iff.1 (by rw [HKl.out]; omega)
            obtain ⟨E0, hE0⟩ : ∃ R, rvs B0 = R := ⟨_, rfl⟩
            have HE0 := Lib.hid hE0
            have HF0 := Lib.hid (show rvs E0 = B0 by rw [← hE0, ← HB0.out, ← HR0.out]; exact rvs4 L)
            have LE0 := Lib.hid (show E0.length = L.length by rw [← hE0, rvs_len, LB.out])
            have LB5 := Lib.hid (show B0.length ≤ 500000 by rw [LB.out]; omega)
            have LE5 := Lib.hid (show E0.length ≤ 500000 by rw [LE0.out]; omega)
            have Lb7 := Lib.hid (lies_to Lb6.out BW7.out)
            have BWr := Lib.hid (Fresh.below BW6.out BW7.out)
            clear hE0
            have hSm := Lib.hid (fun (A1 A2 : Option Addr) (c1 c2 : Nat) (W : World) (h1 : Lies enc2 2 W A1 B0) (h2 : Lies enc2 2 W A2 B0) => LB.out ▸ c_same (c := c1) (c2 := c2) h1 h2 (Nat.le_trans LB5.out (by decide)))
            simp only [List.length_nil, Int.natCast_zero, Int.ofNat_zero]
            go_wp2_with (first
              | (go_at_call 18; refine (does_at w13).mono ?_; rintro e w14 ⟨rfl, hb⟩; have BW14 := Lib.hid (Fresh.below BW13.out hb); clear hb)
              | (go_at_call 10; refine (hSm.out _ _ _ _ w12 Le12.out Lb12.out).mono ?_; rintro e w13 ⟨rfl, hb⟩; have BW13 := Lib.hid (Fresh.below BW12.out hb); clear hb)
              | (go_at_call 16; refine (c_rev2 HF0.out Ld11.out LE0.out LE5.out).mono ?_; rintro e w12 ⟨Ae, ce, rfl, h1, _, hb⟩; have Le12 := Lib.hid h1; have Lb12 := Lib.hid (lies_to Lb11.out hb); have BW12 := Lib.hid (Fresh.below BW11.out hb); clear h1 hb)
              | (go_at_call 16; refine (c_rev2 HE0.out Lb7.out LB.out LB5.out).mono ?_; rintro e w11 ⟨Ad, cd, rfl, h1, _, hb⟩; have Ld11 := Lib.hid h1; have Lb11 := Lib.hid (lies_to Lb7.out hb); have BW11 := Lib.hid (Fresh.below BWr.out hb); clear h1 hb))
            go_ret
            exact ⟨rfl, BW14.out⟩
end Go.Proofs.Ytfehlnmkeniniaa.E
