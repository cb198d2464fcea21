/- EdgesMany, walked. Conditions: none. -/
import Derived.Test.YtfehlnmkeniniaaSap
namespace Go.Proofs.Ytfehlnmkeniniaa.E
open Go.RowKit Go.Sort Go.Shelf
open Go.Proofs.Ytfehlnmkeniniaa.Ma
set_option linter.unusedVariables false
set_option linter.unusedSimpArgs false
structure Inv (m v k : Nat) (K : List Ed) : Prop where
  rise : K.Pairwise Ahead
  mem : ∀ x ∈ K, 0 ≤ x.1 ∧ x.1 < m ∧ 0 ≤ x.2 ∧ x.2 < m ∧ x.1 ≠ x.2 ∧ (x.1 < v ∨ (x.1 = v ∧ x.2 < k))
theorem Inv.skip {m v k : Nat} {K : List Ed} (h : Inv m v k K) : Inv m v (k + 1) K := ⟨h.rise, fun x hx => by have := h.mem x hx; omega⟩
theorem Inv.next {m v k k' : Nat} {K : List Ed} (h : Inv m v k K) : Inv m (v + 1) k' K := ⟨h.rise, fun x hx => by have := h.mem x hx; omega⟩
theorem Inv.add {m v k : Nat} {K : List Ed} (h : Inv m v k K) (hv : v < m) (hk : k < m) (hne : k ≠ v) : Inv m v (k + 1) (K ++ [((v : Int), (k : Int))]) := by
  refine ⟨?_, fun x hx => ?_⟩
  · rw [List.pairwise_append]
    refine ⟨h.rise, List.pairwise_singleton _ _, fun a ha b hb => ?_⟩
    rw [List.mem_singleton] at hb
    subst hb
    have := h.mem a ha
    unfold Ahead
    dsimp only
    omega
  · rw [List.mem_append, List.mem_singleton] at hx
    rcases hx with hx | rfl
    · have := h.mem x hx
      omega
    · dsimp only
      omega
theorem Inv.norm {m v k : Nat} {K L : List Ed} (h : Inv m v k K) (hm : 1 ≤ m ∧ m ≤ 256) (hp : ∀ x, x ∈ L ↔ x ∈ K) : normC m L = if 4096 < K.length then (3, []) else (0, K) := by
  have hn : nrm L = K := (nrm_eq ⟨h.rise, fun x => (hp x).symm⟩).symm
  rw [ok_norm (by omega) (fun x hx => ?_), hn]
  have := h.mem x ((hp x).1 hx)
  unfold badE inR
  simp
  omega
def cntV (m v k : Nat) : Nat := v * (m - 1) + (if k ≤ v then k else k - 1)
theorem cntV_next {m v : Nat} (h1 : 0 < m) (h : v < m) : cntV m v m = cntV m (v + 1) 0 := by
  unfold cntV
  rw [if_neg (by omega), if_pos (by omega), Nat.add_mul]
  omega
theorem cntV_small {m v : Nat} (hm : 66 ≤ m) (h : cntV m v 0 < 4100) : v ≤ 63 := by
  unfold cntV at h
  rw [if_pos (by omega)] at h
  rcases Nat.lt_or_ge v 64 with h' | h'
  · omega
  · have := Nat.mul_le_mul h' (show 65 ≤ m - 1 by omega)
    omega
theorem cntV_skip {m v : Nat} : cntV m v (v + 1) = cntV m v v := by unfold cntV; rw [if_neg (by omega), if_pos (by omega)]; omega
theorem cntV_add {m v k : Nat} (h : k ≠ v) : cntV m v (k + 1) = cntV m v k + 1 := by
  unfold cntV
  by_cases h1 : k + 1 ≤ v
  · rw [if_pos h1, if_pos (by omega)]; omega
  · rw [if_neg h1, if_neg (by omega)]; omega
set_option maxRecDepth 100000 in
set_option maxHeartbeats 8000000 in
theorem many_at (x y z : Int) (w : World) (hx8 : 0 ≤ x ∧ x ≤ 255) (hy8 : 0 ≤ y ∧ y ≤ 255) (hz : 0 ≤ z ∧ z ≤ 65535) : Calls Try.prog 7 #[.int .u8 x, .int .u8 y, .int .u16 z] w fun e w' => e = .returned (.bool true) ∧ Below w.heap.size w w' := by
  obtain ⟨r, hr⟩ : ∃ r, x.tmod 191 = r := ⟨_, rfl⟩
  have hr0 : 0 ≤ r ∧ r ≤ 190 := by rw [← hr, Int.tmod_eq_emod_of_nonneg hx8.1]; omega
  have hcx : IntKind.i64.wrap x = x := wrap8 hx8
  obtain ⟨m, hm⟩ : ∃ m : Nat, 66 + r = (m : Int) := ⟨(66 + r).toNat, by omega⟩
  have hm2 : 66 ≤ m ∧ m ≤ 256 := by omega
  obtain ⟨s, hs⟩ : ∃ s, y.tmod 3 = s := ⟨_, rfl⟩
  have hs0 : 0 ≤ s ∧ s ≤ 2 := by rw [← hs, Int.tmod_eq_emod_of_nonneg hy8.1]; omega
  have hcy : IntKind.i64.wrap y = y := wrap8 hy8
  obtain ⟨M, hM⟩ : ∃ M : Nat, 4096 + s = (M : Int) := ⟨(4096 + s).toNat, by omega⟩
  have hM2 : 4096 ≤ M ∧ M ≤ 4098 := by omega
  go_enter Try.func7, Try.ntmps7
  go_wp2
  go_loopw [8, 9] (fun a i wr => ∃ (v : Nat) (A' : Option Addr) (c' : Nat) (K : List Ed), v ≤ 64 ∧ i = .int .i64 v ∧ a = .slice A' K.length c' ∧ K.length ≤ M ∧ (K.length < M → K.length = cntV m v 0) ∧ Inv m v 0 K ∧ wr.ownsRow w.heap.size 24 2 (.slice A' K.length c') K.length (cellsK enc2 K) ∧ Below w.heap.size w wr) (fun _ i _ => 100 - (intOf i).toNat)
  case atStart => exact ⟨0, none, 0, [], by omega, rfl, rfl, by simp, fun _ => by simp [cntV], ⟨List.Pairwise.nil, fun x hx => by simp at hx⟩, World.ownsRow_nil _ _ _ _, Below.refl _ _⟩
  case round =>
    obtain ⟨v, A', c', K, hv, rfl, rfl, hKM, hKc, hI, hR, hB⟩ := hrel
    have HKc := Lib.hid hKc
    have HI := Lib.hid hI
    have HR := Lib.hid hR
    have HB := Lib.hid hB
    clear hKc hI hR hB
    by_cases hlt : K.length < M
    · have hv63 : v ≤ 63 := cntV_small hm2.1 (by have := HKc.out hlt; omega)
      have HK0 := Lib.hid (HKc.out hlt)
      have i1 : (K.length : Int) < (M : Int) := by omega
      have hvm : (v : Int).tmod (m : Int) = (v : Int) := by rw [Int.tmod_eq_emod_of_nonneg (by omega)]; exact Int.emod_eq_of_lt (by omega) (by omega)
      have hm0 : ¬ (m : Int) = 0 := by omega
      clear hlt
      go_wp2
      go_loopw [8, 10] (fun a i wi => ∃ (k : Nat) (A7 : Option Addr) (c7 : Nat) (T : List Ed), k ≤ m ∧ i = .int .i64 k ∧ a = .slice A7 T.length c7 ∧ T.length ≤ M ∧ (T.length < M → T.length = cntV m v k) ∧ Inv m v k T ∧ wi.ownsRow w.heap.size 24 2 (.slice A7 T.length c7) T.length (cellsK enc2 T) ∧ Below w.heap.size w wi) (fun _ i _ => m - (intOf i).toNat)
      case atStart => exact ⟨0, A', c', K, by omega, rfl, rfl, by omega, fun _ => HK0.out, HI.out, HR.out, HB.out⟩
      case round =>
        obtain ⟨k, A7, c7, T, hk, rfl, rfl, hTM, hTc, hI, hR, hB⟩ := hrel
        have HTc := Lib.hid hTc
        have HI7 := Lib.hid hI
        have HR7 := Lib.hid hR
        have HB7 := Lib.hid hB
        clear hTc hI hR hB
        by_cases hkm : k < m
        · have j1 : (k : Int) < (m : Int) := by omega
          by_cases hTl : T.length < M
          · have j2 : (T.length : Int) < (M : Int) := by omega
            have HTl := Lib.hid hTl
            have HT0 := Lib.hid (HTc.out hTl)
            by_cases hkv : k = v
            · have e1 : ((k : Int) != (v : Int)) = false := by simp; omega
              have HE := Lib.hid hkv
              clear hkv hTl
              go_wp2
              go_roundw
              case rel => exact ⟨k + 1, A7, c7, T, by omega, by go_num, rfl, hTM, fun _ => HT0.out.trans (by rw [HE.out, cntV_skip]), HI7.out.skip, HR7.out, HB7.out⟩
              case measure => simp [intOf]; omega
            · have e1 : ((k : Int) != (v : Int)) = true := by simp; omega
              obtain ⟨R, hR⟩ : ∃ R, T ++ [((v : Int), (k : Int))] = R := ⟨_, rfl⟩
              have H1 := Lib.hid hR
              have HRl := Lib.hid (show R.length = T.length + 1 by rw [← hR]; simp)
              have HRm := Lib.hid (show R.length ≤ 2000000 by rw [HRl.out]; omega)
              have HIn := Lib.hid (show Inv m v (k + 1) R from hR ▸ HI7.out.add (by omega) hkm hkv)
              have HNe := Lib.hid hkv
              have HRM := Lib.hid (show R.length ≤ M by rw [HRl.out]; omega)
              clear hkv hTl hR
              go_wp2_with (at_builtin; refine wp_app rfl _ _ rfl w.heap.size T [((v : Int), (k : Int))] R H1.out (.slice A7 T.length c7) rfl (HR7.out.alloc _) ⟨wr.heap.size, 0, none⟩ 1 1 rfl rfl (news_one (heap_alloc_new wr _)) HRm.out (Nat.le_trans HB7.out.size (by simp)) ?_; intro A2 c2 w2 hr2 hf2; have HO2 := Lib.hid hr2; have HB2 := Lib.hid ((HB7.out.alloc HB7.out.size (.cells #[.int .i64 v, .int .i64 k] 24)).trans (hf2.below (Nat.le_trans HB7.out.size (by simp)) (fun i e => (HR7.out.lt i e).1))); clear hr2 hf2)
              go_roundw
              case rel => exact ⟨k + 1, _, _, R, by omega, by go_num, rfl, HRM.out, fun _ => by rw [HRl.out, HT0.out, cntV_add HNe.out], HIn.out, HO2.out, HB2.out⟩
              case measure => simp [intOf]; omega
          · have j2 : ¬ (T.length : Int) < (M : Int) := by omega
            have HTM := Lib.hid (show T.length = M by omega)
            clear hTl
            go_wp2
            go_roundw
            case rel => exact ⟨v + 1, A7, c7, T, by omega, by go_num, rfl, hTM, fun h => by have := HTM.out; omega, HI7.out.next, HR7.out, HB7.out⟩
            case measure => simp [intOf]; omega
        · obtain rfl : k = m := by omega
          go_wp2
          go_roundw
          case rel => exact ⟨v + 1, A7, c7, T, by omega, by go_num, rfl, hTM, fun h => by rw [HTc.out h, cntV_next (by omega) (by omega)], HI7.out.next, HR7.out, HB7.out⟩
          case measure => simp [intOf]; omega
    · have HKM := Lib.hid (show K.length = M by omega)
      have i1 : ¬ (K.length : Int) < (M : Int) := by omega
      obtain ⟨g, hg⟩ : ∃ g, A' = some ⟨g, 0, none⟩ := by
        obtain ⟨g, c', e, _⟩ := row_own enc2_len HR.out (List.getElem?_eq_getElem (show 0 < K.length by omega))
        cases e
        exact ⟨g, rfl⟩
      subst hg
      obtain ⟨k, hk⟩ : ∃ k : Nat, z % (K.length : Int) = (k : Int) := ⟨(z % (K.length : Int)).toNat, by have := Int.emod_nonneg z (show (K.length : Int) ≠ 0 by omega); omega⟩
      have hkM : k < K.length := by have := Int.emod_lt_of_pos z (show 0 < (K.length : Int) by omega); omega
      have hkt : z.tmod (K.length : Int) = (k : Int) := by rw [← hk]; exact Int.tmod_eq_emod_of_nonneg hz.1
      have hcz : IntKind.i64.wrap z = z := by
        simp only [IntKind.wrap, IntKind.bits, IntKind.signed]
        simp
        omega
      have hK0 : ¬ (K.length : Int) = 0 := by omega
      have hsw : IntKind.u8.wrap s = s := by
        simp only [IntKind.wrap, IntKind.bits, IntKind.signed]
        simp
        omega
      have hcap := row_cap6 HR.out
      obtain ⟨R1, hR1⟩ : ∃ R, K.drop k = R := ⟨_, rfl⟩
      obtain ⟨N2, hN2⟩ : ∃ R, K.take k = R := ⟨_, rfl⟩
      obtain ⟨R2, hR2⟩ : ∃ R, R1 ++ N2 = R := ⟨_, rfl⟩
      have H1 := Lib.hid (show [] ++ R1 = R1 from rfl)
      have H2 := Lib.hid hR2
      have L1 := Lib.hid (show R1.length = K.length - k by rw [← hR1, List.length_drop])
      have L2 := Lib.hid (show N2.length = k by rw [← hN2, List.length_take]; omega)
      have M1 := Lib.hid (show R1.length ≤ 2000000 by rw [L1.out]; omega)
      have M2 := Lib.hid (show R2.length ≤ 2000000 by rw [← hR2, List.length_append, L1.out, L2.out]; omega)
      have M5 := Lib.hid (show R2.length ≤ 500000 by rw [← hR2, List.length_append, L1.out, L2.out]; omega)
      have hmem : ∀ x, x ∈ R2 ↔ x ∈ K := fun x => by
        rw [← hR2, ← hR1, ← hN2, List.mem_append, Or.comm, ← List.mem_append, List.take_append_drop]
      have hLi := row_lies enc2_len HR.out
      have N2h := Lib.hid (show ∀ W', Below wr.heap.size wr W' → ∀ j u, (cellsK enc2 N2)[j]? = some u → W'.cell? ((⟨g, 0, none⟩ : Addr).add j) = some u from fun W' hW' j u hu => lies_news (n := k) enc2_len hLi hW' 0 j u (by rw [List.drop_zero, hN2]; exact hu))
      have N1h := Lib.hid (show ∀ W', Below wr.heap.size wr W' → ∀ j u, (cellsK enc2 R1)[j]? = some u → W'.cell? ((⟨g, k * 2, none⟩ : Addr).add j) = some u from fun W' hW' j u hu => by have := lies_drop (lies_to hLi hW') k j u (by rw [hR1]; exact hu); rwa [Nat.zero_add] at this)
      have b0 : (0 : Int) ≤ (k : Int) := by omega
      have b1 : (k : Int) ≤ (K.length : Int) := by omega
      have b2 : (k : Int) ≤ (c' : Int) := by omega
      have b3 : (K.length : Int) ≤ (c' : Int) := by omega
      have b4 : ¬ c' = k := by omega
      obtain ⟨⟨e0, N0⟩, hRC⟩ : ∃ R, normC (m : Int) R2 = R := ⟨_, rfl⟩
      have hRC2 := HI.out.norm (by omega) hmem
      rw [hRC] at hRC2
      have HRC := Lib.hid hRC
      have LK := Lib.hid (show K.length ≤ 1000000 by omega)
      have HLi := Lib.hid hLi
      have hfin : (0 < s ∧ e0 = 3 ∧ N0 = []) ∨ (s = 0 ∧ e0 = 0 ∧ N0 = K) := by
        rcases Int.lt_or_eq_of_le hs0.1 with h | h
        · rw [if_pos (by omega)] at hRC2
          cases hRC2
          exact .inl ⟨h, rfl, rfl⟩
        · rw [if_neg (by omega)] at hRC2
          cases hRC2
          exact .inr ⟨h.symm, rfl, rfl⟩
      clear hR1 hN2 hR2 hmem hLi hRC hRC2 hk hkM hcap hlt
      go_wp2
      go_region_held3 (fun _ => True)
        (first | trivial)
        ((first
          | (go_at_call 8; refine (c_norm HRC.out (row_lies enc2_len hr2) M5.out).mono ?_; rintro e w3 ⟨A9, c9, rfl, h9, hb9⟩)
          | (refine step_app (by rfl) _ _ (by rfl) wr.heap.size R1 N2 R2 H2.out (.slice A1 R1.length c1) (by rfl) hr1 ⟨g, 0, none⟩ k c' (by rfl) L2.out (N2h.out _ hb1) M2.out hb1.size ?_; intro A2 c2 w2 hr2 hf2; have hb2 := hb1.trans (hf2.below hb1.size (fun i e => (hr1.lt i e).1)))
          | (refine step_app (by rfl) _ _ (by rfl) wr.heap.size [] R1 R1 H1.out (.slice none 0 0) (by rfl) (World.ownsRow_nil _ _ _ _) ⟨g, k * 2, none⟩ (K.length - k) (c' - k) (by rfl) L1.out (N1h.out _ (below_drew wr 1)) M1.out (Nat.le_refl _) ?_; intro A1 c1 w1 hr1 hf1; have hb1 := (below_drew wr 1).trans (hf1.below (Nat.le_refl _) (fun i e => by cases e)))))
      all_goals
        have H9 := Lib.hid h9
        have B9 := Lib.hid (hb2.trans (hb9.mono hb2.size))
        have BW9 := Lib.hid (Fresh.below HB.out B9.out)
        have LK9 := Lib.hid (lies_to HLi.out B9.out)
        clear h9 hb9 hr2 hf2 hr1 hf1 hb1 hb2
        rcases hfin with ⟨h1, rfl, rfl⟩ | ⟨rfl, rfl, rfl⟩
        · simp only [List.length_nil, Int.natCast_zero, Int.ofNat_zero]
          go_wp2_with (go_at_call 18; refine (does_at w3).mono ?_; rintro e w14 ⟨rfl, hb⟩; have BW14 := Lib.hid (Fresh.below BW9.out hb); clear hb)
          go_ret
          exact ⟨rfl, BW14.out⟩
        · go_wp2_with (first
            | (go_at_call 18; refine (does_at w10).mono ?_; rintro e w14 ⟨rfl, hb⟩; have BW14 := Lib.hid (Fresh.below BW10.out hb); clear hb)
            | (go_at_call 10; refine (c_same (L := N0) H9.out LK9.out LK.out).mono ?_; rintro e w10 ⟨rfl, hb⟩; have BW10 := Lib.hid (Fresh.below BW9.out hb); clear hb))
          go_ret
          exact ⟨rfl, BW14.out⟩
end Go.Proofs.Ytfehlnmkeniniaa.E
