/- ShardsAll walked. Conditions: those that the theorem names. -/
import Derived.Test.YtdlmkdldmiiaiaaAlp
namespace Go.Proofs.Ytdlmkdldmiiaiaa.E
open Go.RowKit Go.Sort Go.Shelf
open Go.Proofs.Ytdlmkdldmiiaiaa.Ma Go.Proofs.Ytdlmkdldmiiaiaa.By Go.Proofs.Ytdlmkdldmiiaiaa.Enc
set_option linter.unusedVariables false
set_option linter.unusedSimpArgs false
theorem row_news {w : World} {B n c k : Nat} {e : TypeId} {ad : Addr} {xs : List Value} (h : w.ownsRow B e k (.slice (some ad) n c) n xs) : ∀ j u, xs[j]? = some u → w.cell? (ad.add j) = some u := fun j u hu => by
  rcases h.2 with ⟨e1, _⟩ | ⟨g, cap, cur, e1, _, hg, _, _, hsz, ht⟩
  · cases e1
  · cases e1
    have e2 : (⟨g, 0, none⟩ : Addr).add j = ⟨g, j, none⟩ := by unfold Addr.add; split <;> simp_all
    rw [e2]
    refine cell_of_heap hg ?_
    rw [← ht] at hu
    have hj := (List.getElem?_eq_some_iff.1 hu).1
    rw [List.getElem?_take_of_lt (by rw [List.length_take] at hj; omega)] at hu
    simpa using hu
attribute [local irreducible] wpQuiet
set_option maxRecDepth 100000 in
set_option maxHeartbeats 8000000 in
theorem all_at (A : Option Addr) (cap : Nat) (x y : Int) (P : List Ed) (w : World) (hx8 : 0 ≤ x ∧ x ≤ 255) (hy8 : 0 ≤ y ∧ y ≤ 255) (hl : P.length ≤ 400) (hL : Lies D.enc8 2 w A P) (hb8 : ∀ p ∈ P, (0 ≤ p.1 ∧ p.1 ≤ 255) ∧ 0 ≤ p.2 ∧ p.2 ≤ 255) :
    Calls Try.prog 9 #[.int .u8 x, .int .u8 y, .slice A P.length cap] w fun e w' => e = .returned (.bool true) ∧ Below w.heap.size w w' := by
  have h3 : ¬ (400 : Int) < P.length := by omega
  have h4 : decide ((P.length : Int) > 400) = false := decide_eq_false h3
  have hcx : IntKind.i64.wrap x = x := D.wrap8 hx8
  have hcy : IntKind.i64.wrap y = y := D.wrap8 hy8
  have hNi := madeN_in hx8
  have hSi : 1 ≤ madeS x y ∧ madeS x y ≤ madeN x ∧ madeS x y ≤ 16 := by
    unfold madeS
    have h1 := Int.emod_nonneg y (show min (madeN x) 16 ≠ 0 by omega)
    have h2 := Int.emod_lt_of_pos y (show 0 < min (madeN x) 16 by omega)
    rw [Int.tmod_eq_emod_of_nonneg hy8.1]
    omega
  obtain ⟨r, hr⟩ : ∃ r, x.tmod 255 = r := ⟨_, rfl⟩
  obtain ⟨N, hN⟩ : ∃ N : Nat, madeN x = (N : Int) := ⟨(madeN x).toNat, by omega⟩
  have hN1 : 2 + r = (N : Int) := by rw [← hN, ← hr]; rfl
  obtain ⟨m, hm⟩ : ∃ m, min (N : Int) 16 = m := ⟨_, rfl⟩
  obtain ⟨q, hq⟩ : ∃ q, y.tmod m = q := ⟨_, rfl⟩
  obtain ⟨S, hS⟩ : ∃ S : Nat, madeS x y = (S : Int) := ⟨(madeS x y).toNat, by omega⟩
  have hS1 : 1 + q = (S : Int) := by rw [← hS, ← hq, ← hm, ← hN]; rfl
  rw [hN] at hNi hSi
  rw [hS] at hSi
  have m0 : ¬ m = 0 := by omega
  have S0 : ¬ S = 0 := by omega
  have S0' : ¬ (S : Int) = 0 := by omega
  have r0 : 0 ≤ r ∧ r ≤ 254 := by omega
  have q0 : 0 ≤ q ∧ q ≤ 15 := by omega
  have wr : IntKind.i64.wrap r = r := IntWalk.i64_in _ ⟨by omega, by omega⟩
  have wq : IntKind.i64.wrap q = q := IntWalk.i64_in _ ⟨by omega, by omega⟩
  have wN : IntKind.i64.wrap (N : Int) = (N : Int) := IntWalk.i64_in _ ⟨by omega, by omega⟩
  have wS : IntKind.i64.wrap (S : Int) = (S : Int) := IntWalk.i64_in _ ⟨by omega, by omega⟩
  obtain ⟨L, hLL⟩ : ∃ L, P.map (D.someE (N : Int)) = L := ⟨_, rfl⟩
  obtain ⟨M, hM⟩ : ∃ M, madeL x P = M := ⟨_, rfl⟩
  have HLL := Lib.hid hLL
  have HLl := Lib.hid (show L.length = P.length by rw [← hLL, List.length_map])
  have HL5 := Lib.hid (show L.length ≤ 500000 by rw [HLl.out]; omega)
  have HNm := Lib.hid (show D.normC (N : Int) L = (0, M) by rw [← hLL, ← hN, ← hM]; exact made_norm hx8 hl)
  have HMl := Lib.hid (show M.length ≤ 400 by have := made_len x P; rw [hM] at this; omega)
  have HMr := Lib.hid (show M.Pairwise D.Ahead by rw [← hM]; exact made_rise x P)
  have HMm := Lib.hid (show ∀ y ∈ M, 0 ≤ y.1 ∧ y.1 < (N : Int) ∧ 0 ≤ y.2 ∧ y.2 < (N : Int) ∧ y.1 ≠ y.2 by rw [← hM, ← hN]; exact made_mem hx8 P)
  have HN2 := Lib.hid (show 2 ≤ (N : Int) ∧ (N : Int) ≤ 256 by omega)
  have HNS := Lib.hid (show 1 ≤ S ∧ S ≤ N ∧ S ≤ 16 by omega)
  have HCS := Lib.hid (fun V => cuts_at N S V (by omega) (by omega))
  have HL := Lib.hid hL
  have HB8 := Lib.hid hb8
  have HLen := Lib.hid hl
  have HDOES := Lib.hid (fun V => does_at V)
  clear hx8 hy8 hNi hSi hN hS hLL hM hL hb8 hl
  go_enter Try.func9, Try.ntmps9
  go_upto_region 5 with (first
    | (go_at_call 25; refine (c_norm (L := L) HLl.out HNm.out L2.out HL5.out).mono ?_; rintro e w3 ⟨A3, c3, rfl, h1, hb⟩; have L3 := Lib.hid (h1 (fun _ => False) w3 (Fr.refl _ _) (fun _ e => e.elim)); have B3 := Lib.hid (B2.out.trans (hb.mono B2.out.size)); clear h1 hb)
    | (go_at_call 26; refine (D.c_some HLL.out HN2.out HL.out HB8.out HLen.out).mono ?_; rintro e w2 ⟨A2, c2, rfl, h1, hb⟩; have L2 := Lib.hid h1; have B2 := Lib.hid hb; clear h1 hb))
  go_wp2_with (go_at_call 27; refine (HCS.out _).mono ?_; rintro e w4 ⟨g, rfl, h1, hb⟩; have LC4 := Lib.hid h1; have L4 := Lib.hid (L3.out.below hb (Nat.le_refl _)); have B4 := Lib.hid (B3.out.trans (hb.mono B3.out.size)); clear h1 hb)
  clear hcx hcy hr hN1 hm hq hS1 m0 r0 q0 wr wq h3 h4
  go_loopw [12, 13] (fun s i wi => ∃ (k : Nat) (A' : Option Addr) (c' : Nat) (K : List Ed), i = .int .i64 (k : Int) ∧ k ≤ S ∧ s = .slice A' K.length c' ∧ K = ahead M ((k * N / S : Nat) : Int) ∧ wi.ownsRow w4.heap.size 41 2 (.slice A' K.length c') K.length (cellsK enc2 K) ∧ Below w4.heap.size w4 wi) (fun _ i _ => S - (intOf i).toNat)
  case atStart => exact ⟨0, none, 0, [], rfl, by omega, rfl, by rw [ahead_none]; intro x hx; have := (HMm.out x hx).1; simpa using this, World.ownsRow_nil _ _ _ _, Below.refl _ _⟩
  case round =>
    obtain ⟨k, A', c', K, rfl, hk, rfl, hK, hr, hb⟩ := hrel
    have HK := Lib.hid hK
    have HR := Lib.hid hr
    have HBr := Lib.hid hb
    clear hK hr
    by_cases hlt : k < S
    · obtain ⟨lo, hlo⟩ : ∃ lo : Int, ((k * N / S : Nat) : Int) = lo := ⟨_, rfl⟩
      obtain ⟨hi, hhi⟩ : ∃ hi : Int, (((k + 1) * N / S : Nat) : Int) = hi := ⟨_, rfl⟩
      have HLO := Lib.hid hlo
      have HHI := Lib.hid hhi
      have hns := HNS.out
      have HCA := Lib.hid (show (cutO N S)[k]? = some (lo, hi) by rw [cut_at' hlt, hlo, hhi])
      have HLH := Lib.hid (show 0 ≤ lo ∧ lo < hi ∧ hi ≤ (N : Int) by
        have hc := cut_in (n := N) (s := S) (k := k) (by omega) hlt
        exact ⟨by rw [← hlo]; exact Int.natCast_nonneg _, by rw [← hlo, ← hhi]; exact Int.ofNat_lt.2 hc.1, by rw [← hhi]; exact Int.ofNat_le.2 hc.2⟩)
      obtain ⟨O, hO⟩ : ∃ O, gridOf lo (hi - lo).toNat M = O := ⟨_, rfl⟩
      have HFT := Lib.hid (show Fits lo hi O by
        rw [← hO]
        have h1 := HLH.out
        have h2 := HN2.out
        exact fits_grid HMr.out (fun y hy => by have := HMm.out y hy; omega) (by have := HMl.out; omega) h1.1 h1.2.1 (by omega))
      have HMO := Lib.hid (show mkS lo hi M = (lo, hi, O) by
        have h1 := HLH.out
        have h2 := HN2.out
        unfold mkS mayC
        rw [decide_eq_true h1.1, decide_eq_true h1.2.1, decide_eq_true (show hi ≤ 256 by omega), if_pos (by rfl), mk_grid HMr.out, hO])
      obtain ⟨E, hE⟩ : ∃ E, edgesO lo O = E := ⟨_, rfl⟩
      have HST := Lib.hid (show K ++ E = ahead M hi by
        have h1 := HLH.out
        rw [HK.out, hlo, ← hE, ← hO, ahead_part HMr.out]
        congr 1
        omega)
      have HEI := Lib.hid (show ∀ z ∈ E, lo ≤ z.1 ∧ z.1 < hi from fun z hz => by
        rw [← hE] at hz
        have h1 := edges_in hz
        have h2 := HFT.out.len
        omega)
      have HEL := Lib.hid (show E.length ≤ 4096 by rw [← hE, edgesO_len]; exact HFT.out.many)
      have HOL := Lib.hid (show O.length ≤ 256 by have h1 := HFT.out.len; have h2 := HLH.out; have h3 := HN2.out; omega)
      have HED := Lib.hid (fun A c V h => edges_at lo hi A c O V h (by have h2 := HLH.out; have h3 := HN2.out; omega) HOL.out HFT.out.many)
      rw [hE] at HED
      have HCK := Lib.hid (fun A c V h => checks_at lo hi A c O V h (by have := HOL.out; omega) (by have := HFT.out.many; omega))
      rw [checkC_zero HFT.out] at HCK
      have HMK := Lib.hid (make_at A3 c3 M lo hi wr (L4.out.below hb (Nat.le_refl _)) (by have := HMl.out; omega))
      rw [HMO.out] at HMK
      unfold shV partV at HMK
      unfold shV at HED HCK
      dsimp only at HMK
      obtain ⟨k0, k1⟩ := lies2at (LC4.out.below hb (Nat.le_refl _)) HCA.out
      have i1 : (k : Int) < (S : Int) := by omega
      have i2 : (k : Int) ≤ 16 := by omega
      have HKS := Lib.hid hlt
      clear hb hlt hns hO hE hlo hhi hk
      go_upto_region 13 with (go_at_call 11; refine HMK.out.mono ?_; rintro e w5 ⟨A5, c5, rfl, h1, _, hb5⟩; have LR5 := Lib.hid h1; have B5 := Lib.hid (HBr.out.trans (hb5.mono HBr.out.size)); have B5r := Lib.hid hb5; clear h1 hb5)
      obtain ⟨W7, hW7, gW7, bW7, sW7⟩ := box_new w5 (.cells #[.int .i64 lo, .int .i64 hi, .slice A5 O.length c5] 28 (0, 0))
      rw [hW7]
      have B7r := Lib.hid (B5r.out.trans (bW7.mono B5r.out.size))
      have LR7 := Lib.hid (LR5.out.below bW7 (Nat.le_refl _))
      have G7 := Lib.hid (show Box3 W7 w5.heap.size lo hi (.slice A5 O.length c5) from gW7)
      obtain ⟨q0, q1, q2, _, _, _⟩ := Box3.cells G7.out
      obtain ⟨Z, hZ⟩ : ∃ Z, w5.heap.size = Z := ⟨_, rfl⟩
      rw [hZ] at G7 q0 q1 q2 ⊢
      clear k0 k1 gW7 bW7 sW7 hW7 hZ
      go_upto_region 14 with (go_at_call 22; refine (HED.out _ _ W7 LR7.out).mono ?_; rintro e w8 ⟨A8, c8, rfl, hr8, hb8⟩; have HR8 := Lib.hid hr8; have B8 := Lib.hid hb8; clear hr8 hb8)
      have B8r := Lib.hid (B7r.out.trans (B8.out.mono B7r.out.size))
      have G8 := Lib.hid ((Fr.of_below B8.out).keep G7.out (fun e => e))
      have B84 := Lib.hid (HBr.out.trans (B8r.out.mono HBr.out.size))
      clear q0 q1 q2
      obtain ⟨q0, q1, q2, _, _, _⟩ := Box3.cells G8.out
      obtain ⟨k0, k1⟩ := lies2at (LC4.out.below B84.out (Nat.le_refl _)) HCA.out
      have s0 := fun d os => cell_regrown q0 d os
      have s1 := fun d os => cell_regrown q1 d os
      have s2 := fun d os => cell_regrown q2 d os
      have s3 := fun d os => cell_regrown k0 d os
      have s4 := fun d os => cell_regrown k1 d os
      have hneq : ∀ V, (binOp .neq 24 (.agg #[.int .i64 lo, .int .i64 hi]) (.agg #[.int .i64 lo, .int .i64 hi])).run Try.prog V = .ok (.bool false) V := fun V => by rw [neq24]; simp
      have HCK8 := Lib.hid (fun V (h : Below w8.heap.size w8 V) => HCK.out A5 c5 V ((LR7.out.below B8.out (Nat.le_refl _)).below h (Nat.le_refl _)))
      refine wp_region_quiet_below (by kernel_rfl) (by kernel_rfl) ?_
      repeat (quiet_step ((go_at_call 17; exact Calls.regrown_of (HCK8.out _ (below_regrown _ _ _)))))
      refine wpQuiet_nil ?_
      intro w9 hw9
      have B9 := Lib.hid (show Below w8.heap.size w8 w9 by obtain ⟨p, rfl⟩ := hw9; exact below_regrown _ _ _)
      clear hw9 s0 s1 s2 s3 s4 k0 k1 q0 q1 q2 hneq
      have B94 := Lib.hid (B84.out.trans (B9.out.mono B84.out.size))
      have HR9 := Lib.hid ((Fr.of_below B9.out).row HR8.out (fun _ _ e => e))
      have HRK9 := Lib.hid ((Fr.of_below (B8r.out.trans (B9.out.mono B8r.out.size))).row HR.out (fun _ _ e => e))
      go_wp2
      go_loopw [16] (fun i wi => ∃ j : Nat, i = .int .i64 (j : Int) ∧ j ≤ E.length ∧ Below w9.heap.size w9 wi) (fun i _ => E.length - (intOf i).toNat)
      case atStart => exact ⟨0, rfl, by omega, Below.refl _ _⟩
      case round =>
        obtain ⟨j, rfl, hj, hb9⟩ := hrel
        have HB9 := Lib.hid hb9
        have HRj := Lib.hid ((Fr.of_below hb9).row HR9.out (fun _ _ e => e))
        have HRKj := Lib.hid ((Fr.of_below hb9).row HRK9.out (fun _ _ e => e))
        have HBj4 := Lib.hid (B94.out.trans (hb9.mono B94.out.size))
        by_cases hjl : j < E.length
        · obtain ⟨⟨z1, z2⟩, hz⟩ : ∃ z, E[j]? = some z := ⟨E[j], List.getElem?_eq_getElem _⟩
          have hzi := HEI.out _ (List.mem_of_getElem? hz)
          dsimp only at hzi
          obtain ⟨b8, o8, rfl, _, t0, t1⟩ := lies2 (row_lies enc2_len HRj.out) hz
          dsimp only at t0 t1
          obtain ⟨k0, k1⟩ := lies2at (LC4.out.below HBj4.out (Nat.le_refl _)) HCA.out
          have d1 : decide (z1 < lo) = false := decide_eq_false (by omega)
          have d2 : decide (z1 ≥ hi) = false := decide_eq_false (by omega)
          have d3 : decide (hi ≤ z1) = false := decide_eq_false (by omega)
          have j1 : (j : Int) < (E.length : Int) := by omega
          have j2 : (j : Int) ≤ 4096 := by have := HEL.out; omega
          have HJ := Lib.hid hjl
          clear hz hzi hj hjl hb9
          go_upto_region 19 with (fail)
          go_quiet (fail)
          have hbq := HB9.out.trans ((below_drewNg wr nq).mono HB9.out.size)
          obtain ⟨wq, hwq⟩ : ∃ V, wr.drewN nq = V := ⟨_, rfl⟩
          rw [hwq] at hbq ⊢
          have HBQ := Lib.hid hbq
          clear hwq hbq t0 t1 k0 k1
          go_wp2
          go_roundw
          case rel => exact ⟨j + 1, by go_num, HJ.out, HBQ.out⟩
          case measure => have := HJ.out; simp [intOf]; omega
        · obtain rfl : j = E.length := by omega
          clear hj hjl hb9
          rcases A8 with _ | ad
          · have hE0 : E = [] ∧ c8 = 0 := by
              rcases HRj.out.2 with ⟨e1, e2⟩ | ⟨g, cap, cur, e1, _⟩
              · injection e1 with _ _ e3
                exact ⟨List.length_eq_zero_iff.1 e2, e3⟩
              · cases e1
            obtain ⟨rfl, rfl⟩ := hE0
            have hST := HST.out
            rw [List.append_nil] at hST
            have HS2 := Lib.hid hST
            clear hST
            simp only [List.length_nil]
            go_wp2_with (at_builtin; refine D.wp_app0 rfl _ _ rfl w4.heap.size K (.slice A' K.length c') rfl HRKj.out rfl ?_)
            go_roundw
            case rel => exact ⟨k + 1, A', c', K, by go_num, HKS.out, rfl, by rw [HHI.out]; exact HS2.out, HRKj.out, HBj4.out⟩
            case measure => have := HKS.out; simp [intOf]; omega
          · have HRN := Lib.hid (show (ahead M hi).length ≤ 2000000 by have := ahead_len M hi; have := HMl.out; omega)
            go_wp2_with (at_builtin; refine D.wp_app rfl _ _ rfl w4.heap.size K E (ahead M hi) HST.out (.slice A' K.length c') rfl HRKj.out ad E.length c8 rfl rfl (row_news HRj.out) HRN.out HBj4.out.size ?_; intro A10 c10 w10 hr10 hf10; have HO10 := Lib.hid hr10; have HB10 := Lib.hid (HBj4.out.trans (hf10.below HBj4.out.size (fun i e => (HRKj.out.lt i e).1))); clear hr10 hf10)
            go_roundw
            case rel => exact ⟨k + 1, A10, c10, ahead M hi, by go_num, HKS.out, rfl, by rw [HHI.out], HO10.out, HB10.out⟩
            case measure => have := HKS.out; simp [intOf]; omega
    · obtain rfl : k = S := by omega
      have hns := HNS.out
      have hKM : K = M := by
        rw [HK.out, Nat.mul_div_cancel_left _ (by omega)]
        exact ahead_all (fun x hx => (HMm.out x hx).2.1)
      subst hKM
      have HSM := Lib.hid (D.same_at A' A3 c' c3 K wr (row_lies enc2_len HR.out) (L4.out.below hb (Nat.le_refl _)) (by have := HMl.out; omega))
      clear hb hk hlt hns
      go_wp2_with (first | (go_at_call 13; refine HSM.out.mono ?_; rintro e w6 ⟨rfl, m6, rfl⟩; have B6 := Lib.hid (B4.out.trans ((HBr.out.trans ((below_drewNg wr m6).mono HBr.out.size)).mono B4.out.size))) | (go_at_call 14; refine (HDOES.out _).mono ?_; rintro e w7 ⟨rfl, hb7⟩; have B7 := Lib.hid (B6.out.trans (hb7.mono B6.out.size)); clear hb7))
      go_ret
      exact ⟨rfl, B7.out⟩
end Go.Proofs.Ytdlmkdldmiiaiaa.E
