/- EdgesTell, walked. Conditions: the list lies readable. -/
import Derived.Test.YtfehlnmkeniniaaCtr
namespace Go.Proofs.Ytfehlnmkeniniaa.E
open Go.RowKit Go.Sort Go.Shelf
open Go.Proofs.Ytfehlnmkeniniaa.Ma
set_option linter.unusedVariables false
set_option linter.unusedSimpArgs false
theorem row_cap {w : World} {B n c : Nat} {A : Option Addr} {xs : List Value} (h : w.ownsRow B 24 2 (.slice A n c) n xs) : n ≤ c ∧ c ≤ 9223372036854775807 := by
  obtain ⟨_, _, e, h1, h2⟩ := row_open enc2_len h
  cases e
  exact ⟨h1, h2⟩
set_option maxRecDepth 100000 in
set_option maxHeartbeats 8000000 in
theorem tell_at (A : Option Addr) (len cap : Nat) (n v : Int) (L : List Ed) (w : World) (hl : len ≤ 300) (hlen : L.length = len) (hlc : len ≤ cap) (hcap : cap ≤ 9223372036854775807) (hA : A = none → cap = 0) (hL : Lies enc2 2 w A L) : Calls Try.prog 3 #[.int .i64 n, .slice A len cap, .int .i64 v] w fun e w' => e = .returned (.bool true) ∧ Below w.heap.size w w' := by
  subst hlen
  have HL := Lib.hid hL
  have HLen := Lib.hid hl
  have HL5 := Lib.hid (show L.length ≤ 500000 by omega)
  have h3 : ¬ (300 : Int) < L.length := by omega
  obtain ⟨i0, hi, hz0, hz1, hz2⟩ := info_parts info24
  obtain ⟨R2, hR2⟩ : ∃ R, L ++ [((-7 : Int), (0 : Int))] = R := ⟨_, rfl⟩
  have H2 := Lib.hid hR2
  have HRl := Lib.hid (show R2.length = L.length + 1 by rw [← hR2]; simp)
  have HR5 := Lib.hid (show R2.length ≤ 2000000 by rw [HRl.out]; omega)
  have HL2 := Lib.hid (show L.length ≤ 2000000 by omega)
  have HE := Lib.hid (show [] ++ L = L from rfl)
  clear hL hR2
  go_enter Try.func3, Try.ntmps3
  go_upto_region 3 with (fail)
  go_cut [7] from 19 to 110 (fun s wx => ∃ A2 c2, s = .slice A2 L.length c2 ∧ L.length + 1 ≤ c2 ∧ c2 ≤ 9223372036854775807 ∧ Lies enc2 2 wx A2 (L ++ [((-7 : Int), (0 : Int))]) ∧ Below w.heap.size w wx)
  case first =>
    rcases A with _ | ad
    · obtain rfl := hA rfl
      obtain rfl : L = [] := List.length_eq_zero_iff.1 (by omega)
      simp only [List.length_nil, Int.natCast_zero, Int.ofNat_zero] at HRl ⊢
      go_wp2_with (first
        | (at_builtin; refine wp_app rfl _ _ rfl w.heap.size [] [(-7, 0)] R2 H2.out (.slice (some ⟨w.heap.size, 0, none⟩) 0 1) rfl (HO0.out.alloc _) ⟨w0.heap.size, 0, none⟩ 1 1 rfl rfl (news_one (heap_alloc_new w0 _)) HR5.out (Nat.le_trans HB0.out.size (by simp)) ?_; intro A2 c2 w2 hr2 hf2; have HO2 := Lib.hid hr2; have hcc := row_cap hr2; have hcd : (0 : Int) ≤ (c2 : Int) := by { have := HRl.out; omega }; have HCC := Lib.hid hcc; have HB2 := Lib.hid ((HB0.out.alloc HB0.out.size (.cells #[.int .i64 (-7), .int .i64 0] 24)).trans (hf2.below (Nat.le_trans HB0.out.size (by simp)) (fun i e => (HO0.out.lt i e).1))); clear hr2 hf2 hcc)
        | (at_builtin; refine wp_app0 rfl _ _ rfl w.heap.size [] (.slice (some ⟨w.heap.size, 0, none⟩) 0 1) rfl HO0.out rfl ?_)
        | (at_make; refine wpList_make_own _ rfl _ _ 22 rfl w.heap.size 24 i0 _ 2 Try.underlying22 hi hz0 hz1 .i64 .i64 _ 1 rfl rfl (by first | rfl | omega) (by rw [hz2]; omega) (by unfold maxLen; omega) (Nat.le_refl _) ?_; intro w0 hown0 hgrow0; have HB0 := Lib.hid ((Fr.of_grownR hgrow0).below (Nat.le_refl _) (fun i e => by cases e)); have HO0 := Lib.hid hown0; clear hown0 hgrow0))
      go_meet
      exact ⟨_, _, rfl, by have := HCC.out; rw [HRl.out] at this; simpa using this.1, HCC.out.2, by rw [H2.out]; exact row_lies enc2_len HO2.out, HB2.out⟩
    · go_wp2_with (first
        | (at_builtin; refine wp_app rfl _ _ rfl w.heap.size L [(-7, 0)] R2 H2.out (.slice A1 L.length c1) rfl (HO1.out.alloc _) ⟨w1.heap.size, 0, none⟩ 1 1 rfl rfl (news_one (heap_alloc_new w1 _)) HR5.out (Nat.le_trans HB1.out.size (by simp)) ?_; intro A2 c2 w2 hr2 hf2; have HO2 := Lib.hid hr2; have hcc := row_cap hr2; have hcd : (L.length : Int) ≤ (c2 : Int) := by { have := HRl.out; omega }; have HCC := Lib.hid hcc; have HB2 := Lib.hid ((HB1.out.alloc HB1.out.size (.cells #[.int .i64 (-7), .int .i64 0] 24)).trans (hf2.below (Nat.le_trans HB1.out.size (by simp)) (fun i e => (HO1.out.lt i e).1))); clear hr2 hf2 hcc)
        | (at_builtin; refine wp_app rfl _ _ rfl w.heap.size [] L L HE.out (.slice (some ⟨w.heap.size, 0, none⟩) 0 (L.length + 1)) rfl HO0.out ad _ _ rfl rfl (lies_src HL.out HB0.out) HL2.out HB0.out.size ?_; intro A1 c1 w1 hr1 hf1; have HO1 := Lib.hid hr1; have HB1 := Lib.hid (HB0.out.trans (hf1.below HB0.out.size (fun i e => (HO0.out.lt i e).1))); clear hr1 hf1)
        | (at_make; refine wpList_make_own _ rfl _ _ 22 rfl w.heap.size 24 i0 _ 2 Try.underlying22 hi hz0 hz1 .i64 .i64 _ (L.length + 1) rfl rfl (by first | rfl | omega) (by rw [hz2]; omega) (by unfold maxLen; omega) (Nat.le_refl _) ?_; intro w0 hown0 hgrow0; have HB0 := Lib.hid ((Fr.of_grownR hgrow0).below (Nat.le_refl _) (fun i e => by cases e)); have HO0 := Lib.hid hown0; clear hown0 hgrow0))
      go_meet
      exact ⟨_, _, rfl, by have := HCC.out; rw [HRl.out] at this; exact this.1, HCC.out.2, by rw [H2.out]; exact row_lies enc2_len HO2.out, HB2.out⟩
  case rest =>
    obtain ⟨A2, c2, rfl, hc2, hc3, hLo, hb⟩ := hcut
    obtain ⟨g7, o7, rfl, lg, yz0, yz1⟩ := lies2 (j := L.length) (x1 := -7) (x2 := 0) hLo (by simp)
    have HLo := Lib.hid (lies_pre hLo)
    have HZ0 := Lib.hid yz0
    have HZ1 := Lib.hid yz1
    have LG := Lib.hid lg
    have BW0 := Lib.hid hb
    have g1 : (L.length : Int) + 1 ≤ (c2 : Int) := by omega
    have g2 : (L.length : Int) < (L.length : Int) + 1 := by omega
    have eq := eq24 (-7) 0 (-7) 0
    rw [show decide ((-7 : Int) = -7 ∧ (0 : Int) = 0) = true by simp] at eq
    obtain ⟨⟨e0, N0⟩, hR0⟩ : ∃ R, normC n L = R := ⟨_, rfl⟩
    obtain ⟨⟨D0, E0⟩, hD0⟩ : ∃ R, degC n L = R := ⟨_, rfl⟩
    obtain ⟨O0, hO0⟩ : ∃ R, outL L v = R := ⟨_, rfl⟩
    obtain ⟨V0, hV0⟩ : ∃ R, rvs L = R := ⟨_, rfl⟩
    have LN := Lib.hid (show N0.length ≤ 1000000 by have := normC_len n L; rw [hR0] at this; dsimp only at this; omega)
    have LD := Lib.hid (show D0.length ≤ 1000000 by have := degC_len n L; rw [hD0] at this; dsimp only at this; omega)
    have LE := Lib.hid (show E0.length ≤ 1000000 by have := degC_len n L; rw [hD0] at this; dsimp only at this; omega)
    have LO := Lib.hid (show O0.length ≤ 1000000 by have := out_len L v; rw [hO0] at this; omega)
    have LV := Lib.hid (show V0.length ≤ 1000000 by have := rvs_len L; rw [hV0] at this; omega)
    have LL := Lib.hid (show L.length ≤ 1000000 by omega)
    have HR0 := Lib.hid hR0
    have HD0 := Lib.hid hD0
    have HO0 := Lib.hid hO0
    have HV0 := Lib.hid hV0
    clear hR0 hD0 hO0 hV0 hLo yz0 yz1 lg hb hc2 hi hz0 hz1 hz2
    go_wp2_with (first
      | (go_at_call 18; refine (does_at w14).mono ?_; rintro e w15 ⟨rfl, hb⟩; have BW15 := Lib.hid (Fresh.below BW14.out hb); clear hb)
      | (go_at_call 10; refine (c_same (L := L) (HLo.out.below BC13.out (Nat.le_refl _)) (HL.out.below BW13.out (Nat.le_refl _)) LL.out).mono ?_; rintro e w14 ⟨rfl, hb⟩; have BW14 := Lib.hid (Fresh.below BW13.out hb); have z0 := ((Fresh.below BC13.out hb).cell (p := ⟨g7, o7 + L.length * 2, none⟩) LG.out).trans HZ0.out; have z1 := ((Fresh.below BC13.out hb).cell (p := ⟨g7, o7 + L.length * 2 + 1, none⟩) LG.out).trans HZ1.out; clear hb)
      | (go_at_call 10; refine (c_same (L := V0) La12.out Lb12.out LV.out).mono ?_; rintro e w13 ⟨rfl, hb⟩; have BW13 := Lib.hid (Fresh.below BW12.out hb); have BC13 := Lib.hid (Fresh.below BC12.out hb); clear hb)
      | (go_at_call 17; refine (c_refrev HV0.out (HL.out.below BW11.out (Nat.le_refl _)) HL5.out).mono ?_; rintro e w12 ⟨Ah, ch, rfl, h1, hb⟩; have Lb12 := Lib.hid h1; have La12 := Lib.hid (lies_to La11.out hb); have BW12 := Lib.hid (Fresh.below BW11.out hb); have BC12 := Lib.hid (Fresh.below BC11.out hb); clear h1 hb)
      | (go_at_call 16; refine (c_rev HV0.out (HLo.out.below BC10.out (Nat.le_refl _)) HL5.out).mono ?_; rintro e w11 ⟨Ag, cg, rfl, h1, hb⟩; have La11 := Lib.hid h1; have BW11 := Lib.hid (Fresh.below BW10.out hb); have BC11 := Lib.hid (Fresh.below BC10.out hb); clear h1 hb)
      | (go_at_call 13; refine (c_sameI (L := O0) La9.out Lb9.out LO.out).mono ?_; rintro e w10 ⟨rfl, hb⟩; have BW10 := Lib.hid (Fresh.below BW9.out hb); have BC10 := Lib.hid (Fresh.below BC9.out hb); clear hb)
      | (go_at_call 15; refine (c_refout HO0.out (HL.out.below BW8.out (Nat.le_refl _)) HL5.out).mono ?_; rintro e w9 ⟨Af, cf, rfl, h1, hb⟩; have Lb9 := Lib.hid h1; have La9 := Lib.hid (liesI_to La8.out hb); have BW9 := Lib.hid (Fresh.below BW8.out hb); have BC9 := Lib.hid (Fresh.below BC8.out hb); clear h1 hb)
      | (go_at_call 14; refine (c_out HO0.out (HLo.out.below BC7.out (Nat.le_refl _)) HL5.out).mono ?_; rintro e w8 ⟨Ae, ce, rfl, h1, hb⟩; have La8 := Lib.hid h1; have BW8 := Lib.hid (Fresh.below BW7.out hb); have BC8 := Lib.hid (Fresh.below BC7.out hb); clear h1 hb)
      | (go_at_call 13; refine (c_sameI (L := E0) Li6.out Ly6.out LE.out).mono ?_; rintro e w7 ⟨rfl, hb⟩; have BW7 := Lib.hid (Fresh.below BW6.out hb); have BC7 := Lib.hid (Fresh.below BC6.out hb); clear hb)
      | (go_at_call 13; refine (c_sameI (L := D0) Lo5.out Lx5.out LD.out).mono ?_; rintro e w6 ⟨rfl, hb⟩; have Li6 := Lib.hid (liesI_to Li5.out hb); have Ly6 := Lib.hid (liesI_to Ly5.out hb); have BW6 := Lib.hid (Fresh.below BW5.out hb); have BC6 := Lib.hid (Fresh.below BC5.out hb); clear hb)
      | (go_at_call 12; refine (c_refdeg HD0.out (HL.out.below BW4.out (Nat.le_refl _)) HL5.out).mono ?_; rintro e w5 ⟨Ax, cx, Ay, cy, rfl, h1, h2, hb⟩; have Lx5 := Lib.hid h1; have Ly5 := Lib.hid h2; have Lo5 := Lib.hid (liesI_to Lo4.out hb); have Li5 := Lib.hid (liesI_to Li4.out hb); have BW5 := Lib.hid (Fresh.below BW4.out hb); have BC5 := Lib.hid (Fresh.below BC4.out hb); clear h1 h2 hb)
      | (go_at_call 11; refine (c_deg HD0.out (HLo.out.below BC3.out (Nat.le_refl _)) HL5.out).mono ?_; rintro e w4 ⟨Ac, cc, Ad, cd, rfl, h1, h2, hb⟩; have Lo4 := Lib.hid h1; have Li4 := Lib.hid h2; have BW4 := Lib.hid (Fresh.below BW3.out hb); have BC4 := Lib.hid (Fresh.below BC3.out hb); clear h1 h2 hb)
      | (go_at_call 10; refine (c_same (L := N0) La2.out Lb2.out LN.out).mono ?_; rintro e w3 ⟨rfl, hb⟩; have BW3 := Lib.hid (Fresh.below BW2.out hb); have BC3 := Lib.hid (Fresh.below BC2.out hb); clear hb)
      | (go_at_call 9; refine (c_refnorm HR0.out (HL.out.below BW1.out (Nat.le_refl _)) HL5.out).mono ?_; rintro e w2 ⟨Ab, cb, rfl, h1, hb⟩; have Lb2 := Lib.hid h1; have La2 := Lib.hid (lies_to La1.out hb); have BW2 := Lib.hid (Fresh.below BW1.out hb); have BC2 := Lib.hid (Fresh.below BC1.out hb); clear h1 hb)
      | (go_at_call 8; refine (c_norm HR0.out HLo.out HL5.out).mono ?_; rintro e w1 ⟨Aa, ca, rfl, h1, hb⟩; have La1 := Lib.hid h1; have BW1 := Lib.hid (Fresh.below BW0.out hb); have BC1 := Lib.hid hb; clear h1 hb))
    go_ret
    exact ⟨rfl, BW15.out⟩
end Go.Proofs.Ytfehlnmkeniniaa.E
