/- shards: Encode walked, up to its last statement. Conditions: those that each theorem names. -/
import Derived.Test.YtdlmkdldmiiaiaaEns
import Derived.Test.YtdlmkdldmiiaiaaPck
namespace Go.Proofs.Ytdlmkdldmiiaiaa.E
open Go.RowKit Go.Sort Go.Shelf
open Go.Proofs.Ytdlmkdldmiiaiaa.Ma Go.Proofs.Ytdlmkdldmiiaiaa.By Go.Proofs.Ytdlmkdldmiiaiaa.Enc
set_option linter.unusedVariables false
set_option linter.unusedSimpArgs false
theorem degs_one (L : List Int) : (L.length : Int) = (L.length : Int) := rfl
set_option maxRecDepth 100000 in
set_option maxHeartbeats 4000000 in
theorem encS_at (lo hi : Int) (A : Option Addr) (c : Nat) (O : List (List Int)) (w : World) (hL : LiesR w A O) (hl : O.length ≤ 1000000) (hm : manyC O ≤ 1000000) :
    Calls Try.prog 16 #[shV lo hi A O.length c] w fun e w' => e = .returned (.tuple #[.string (bytesB (encS lo hi O).1), .int .i64 (encS lo hi O).2]) ∧ Below w.heap.size w w' := by
  obtain ⟨W, hW, g0, g1, g2, hbW, hsW⟩ := box28 w lo hi A O.length c
  have HC := Lib.hid (fun V (hb : Below w.heap.size w V) => checks_at lo hi A c O V (hL.below hb (Nat.le_refl _)) hl hm)
  have HB := Lib.hid hbW
  have HSW := Lib.hid hsW
  have HL := Lib.hid hL
  unfold encS shV
  unfold shV at HC
  by_cases h0 : checkC lo hi O = 0
  case neg =>
    rw [if_neg h0]
    obtain ⟨r, hr⟩ : ∃ r, checkC lo hi O = r := ⟨_, rfl⟩
    rw [hr] at HC h0 ⊢
    have j1 : (r != 0) = true := by simpa using h0
    clear hL hl hm hsW h0 hr hbW
    go_enter Try.func16, Try.ntmps16
    go_wp2_with (go_at_call 17; refine (HC.out _ HB.out).mono ?_; rintro e w2 ⟨rfl, hb2⟩; have HB2 := Lib.hid hb2; clear hb2)
    exact bodyPost_ret (v := .tuple #[.string (bytesB []), .int .i64 r]) (by simp [results, Try.results16, go_sem]) rfl ⟨rfl, HB.out.trans (HB2.out.mono HB.out.size)⟩
  rw [if_pos h0]
  have hf := fits_of h0
  rw [h0] at HC
  have HF := Lib.hid hf
  have HIN := Lib.hid (show ∀ (j : Nat) (L : List Int), O[j]? = some L → rises (-1) L = true ∧ (∀ x ∈ L, 0 ≤ x ∧ x < 256) ∧ L.length ≤ 4096 from fun j L h => ⟨(listC_in (hf.each j L h)).1, (listC_in (hf.each j L h)).2, Nat.le_trans (many_len h) hf.many⟩)
  have HFL := Lib.hid (flat_len (O := O) (fun j L h => (listC_in (hf.each j L h)).2) hm)
  have HML := Lib.hid (fun k => Nat.le_trans (manyC_le O k) hf.many)
  have hn : O.length ≤ 256 := by have := hf.len; have := hf.h0; have := hf.h2; omega
  have HN := Lib.hid hn
  clear hL hl hm hsW h0 hf hbW hn
  go_enter Try.func16, Try.ntmps16
  go_upto_region 5 with (go_at_call 17; refine (HC.out _ HB.out).mono ?_; rintro e w2 ⟨rfl, hb2⟩; have HB2 := Lib.hid hb2; have g0' := (hb2.cell (p := ⟨w.heap.size, 0, none⟩) (by rw [HSW.out]; exact Nat.lt_succ_self _)).trans g0; have g1' := (hb2.cell (p := ⟨w.heap.size, 1, none⟩) (by rw [HSW.out]; exact Nat.lt_succ_self _)).trans g1; have g2' := (hb2.cell (p := ⟨w.heap.size, 2, none⟩) (by rw [HSW.out]; exact Nat.lt_succ_self _)).trans g2; clear hb2)
  obtain ⟨B, hBB⟩ : ∃ B, w2.heap.size = B := ⟨_, rfl⟩
  have HBW := Lib.hid (show w.heap.size < B by have := HB2.out.size; have := HSW.out; omega)
  obtain ⟨W3, hW3, gW3, hbW3, hsW3⟩ := box_new w2 (.cells #[.pointer none, .slice none 0 0] 75 (0, 0))
  have HFR := Lib.hid (show Lib.IsBuilderF 75 5 B B [] W3 by rw [← hBB, ← hW3]; exact fresh_builder w2)
  have HB3 := Lib.hid (show Below B w2 W3 by rw [← hBB]; exact hbW3)
  have HB23 := Lib.hid (show Below w.heap.size w w2 from HB.out.trans (HB2.out.mono HB.out.size))
  have hlt := HBW.out
  have G0 : W3.cell? ⟨w.heap.size, 0, none⟩ = some (.int .i64 lo) := (HB3.out.cell (p := ⟨w.heap.size, 0, none⟩) hlt).trans g0'
  have G1 : W3.cell? ⟨w.heap.size, 1, none⟩ = some (.int .i64 hi) := (HB3.out.cell (p := ⟨w.heap.size, 1, none⟩) hlt).trans g1'
  have G2 : W3.cell? ⟨w.heap.size, 2, none⟩ = some (.slice A O.length c) := (HB3.out.cell (p := ⟨w.heap.size, 2, none⟩) hlt).trans g2'
  have HBX := Lib.hid hBB
  have HG0 := Lib.hid g0'
  have HG1 := Lib.hid g1'
  have HG2 := Lib.hid g2'
  clear g0 g1 g2 g0' g1' g2' gW3 hbW3 hsW3 hlt
  go_wp2
  clear hBB hW3
  go_loopw [5, 22] (fun v i wi => ∃ k : Nat, i = .int .i64 (k : Int) ∧ k ≤ O.length ∧ wi.ownsRow B 3 1 v (degsC (O.take k)).length (cellsK encI (degsC (O.take k))) ∧ Lib.IsBuilderF 75 5 B B (Lib.byteCells ((O.take k).flatMap encL)) wi ∧ Below B w2 wi) (fun _ i _ => O.length - (intOf i).toNat)
  case atStart => exact ⟨0, rfl, by omega, World.ownsRow_nil _ _ _ _, HFR.out, HB3.out⟩
  case round =>
    obtain ⟨k, rfl, hk, hrow, hbld, hb⟩ := hrel
    have HROW := Lib.hid hrow
    have HBLD := Lib.hid hbld
    have HBR := Lib.hid hb
    by_cases hlt : k < O.length
    · obtain ⟨x, hx⟩ : ∃ p, O[k]? = some p := ⟨O[k], List.getElem?_eq_getElem _⟩
      have hbw : Below w.heap.size w wr := HB23.out.trans (HBR.out.mono (Nat.le_of_lt HBW.out))
      obtain ⟨b, o, A', c', rfl, _, hc, hcc, _, hlx⟩ := liesR1 (HL.out.below hbw (Nat.le_refl _)) hx
      obtain ⟨hr1, hx1, hln⟩ := HIN.out k x hx
      have HE := Lib.hid (enc_at A' c' x wr hlx hcc (by omega) (fun y hy => by have := hx1 y hy; omega))
      have hch : chkG x = 0 := by unfold chkG; rw [if_pos hr1]
      have he1 : encC x = (encL x, 0) := by unfold encC; rw [if_pos hch]
      rw [he1] at HE
      have i1 : (k : Int) < (O.length : Int) := by omega
      have i2 : (k : Int) < 1000 := by have := HN.out; omega
      obtain ⟨m, hm⟩ : ∃ m, x.length = m := ⟨_, rfl⟩
      have HDT := Lib.hid (degs_take hx)
      have HFT := Lib.hid (flat_take hx)
      have HFL1 := Lib.hid (HFL.out k (by omega))
      have HEL := Lib.hid (encL_len hx1 (by omega))
      rw [hm] at HDT HEL HE hc hln
      have HMM := Lib.hid hln
      have HDL := Lib.hid (show (degsC (O.take k)).length = k by rw [degs_len, List.length_take]; omega)
      have HK := Lib.hid hlt
      obtain ⟨R, hR⟩ : ∃ R, degsC (O.take (k + 1)) = R := ⟨_, rfl⟩
      rw [hR] at HDT
      have HR := Lib.hid hR
      have HRR := Lib.hid HDT.out.symm
      have i3 : (m : Int) ≤ 4096 := by omega
      clear hrow hbld hb hbw hlx hr1 hx1 hch he1 hx hk hlt hm hR hcc hln
      go_upto_region 12 with (go_at_call 35; refine HE.out.mono ?_; rintro e w4 ⟨rfl, hb4⟩; have HB4 := Lib.hid hb4; have HROW4 := Lib.hid (row_below HROW.out hb4); have HBLD4 := Lib.hid (builder_moved HBLD.out hb4); clear hb4)
      have HS4 := Lib.hid (show B ≤ w4.heap.size by have a := HBR.out.size; have b' := HB4.out.size; have := HBX.out; omega)
      go_wp2_with (at_builtin; refine wp_appN rfl _ _ rfl B (degsC (O.take k)) (m : Int) R HRR.out _ rfl (HROW4.out.alloc _) w4.heap.size rfl (heap_alloc_new w4 _) (by have := HDL.out; omega) (Nat.le_trans HS4.out (by simp)) ?_; intro A5 c5 w5 hr5 hf5 hg5; have HR5 := Lib.hid hr5; have HF5 := Lib.hid hf5; clear hr5 hf5 hg5)
      have HROW5 := Lib.hid (HROW4.out.alloc (.cells #[.int .i64 (m : Int)] 3))
      have HBLD5 := Lib.hid (bldF_fr (builder_moved HBLD4.out ((Below.refl _ w4).alloc (Nat.le_refl _) (.cells #[.int .i64 (m : Int)] 3))) HF5.out (row_kind HROW5.out) (by decide) (by decide))
      have HB5 := Lib.hid (show Below B w4 w5 from ((Below.refl _ w4).alloc HS4.out _).trans (HF5.out.below (Nat.le_trans HS4.out (by simp)) (fun g hg => (HROW5.out.lt g hg).1)))
      obtain ⟨cs5, hcs5⟩ := builder_block HBLD5.out
      have HCS5 := Lib.hid hcs5
      have HSZ := Lib.hid (show (Lib.byteCells ((O.take k).flatMap encL)).length + (bytesB (encL x)).size ≤ 140737488355328 by
        rw [Lib.byteCells_length]
        have e : (bytesB (encL x)).size = (encL x).length := by unfold ByteArray.size; simp
        rw [e]
        have := HFL1.out
        have := HEL.out
        have := HML.out k
        have := HN.out
        have := HK.out
        have := HMM.out
        omega)
      have HS5 := Lib.hid (Nat.le_trans HS4.out HB5.out.size)
      clear hcs5
      go_wp2_with (go_at_call 36; refine (bw B B _ _ _ HBLD5.out HSZ.out HS5.out).mono ?_; rintro e w6 ⟨rfl, hb6, hb6', hb6''⟩; have HB6 := Lib.hid hb6; have HB6' := Lib.hid hb6'; have HB6'' := Lib.hid hb6''; clear hb6 hb6' hb6'')
      go_roundw
      case rel =>
        refine ⟨k + 1, by go_num, HK.out, by rw [HR.out]; exact row_others HR5.out HB6''.out HCS5.out, .inr ?_, ?_⟩
        · rw [HFT.out]
          have e : Lib.byteCells ((O.take k).flatMap encL ++ encL x) = Lib.byteCells ((O.take k).flatMap encL) ++ Lib.strCells (bytesB (encL x)) := by simp [Lib.byteCells, Lib.strCells]
          rw [e]
          exact HB6.out
        · have h4 : Below B wr w4 := HB4.out.mono (by have a := HBR.out.size; have := HBX.out; omega)
          exact ((HBR.out.trans h4).trans HB5.out).trans HB6'.out
      case measure => have := HK.out; simp [intOf]; omega
    · obtain rfl : k = O.length := by omega
      rw [List.take_length] at hrow HROW hbld HBLD
      obtain ⟨A9, c9, rfl, _, _⟩ := row_open encI_len hrow
      have hdl := degs_len O
      have hlies := row_lies encI_len hrow
      have hrange : ∀ y ∈ degsC O, 0 ≤ y ∧ y < 4294967296 := fun y hy => by
        unfold degsC at hy
        obtain ⟨L, hL, rfl⟩ := List.mem_map.1 hy
        obtain ⟨j, hj⟩ := List.mem_iff_getElem?.1 hL
        have := (HIN.out j L hj).2.2
        omega
      have hn := HN.out
      have H37 := Lib.hid (maxw_at A9 c9 (degsC O) wr hlies (by omega) (fun y hy => by have := hrange y hy; omega))
      have H38 := Lib.hid (pack_at A9 c9 (degsC O) wr hlies (by omega) hrange)
      obtain ⟨Wn, hWn⟩ : ∃ Wn : Nat, maxW (degsC O) = (Wn : Int) := ⟨(maxW (degsC O)).toNat, by have := maxW_in (degsC O); omega⟩
      have HWN := Lib.hid hWn
      have HW33 := Lib.hid (show Wn ≤ 33 by have := maxW_in (degsC O); omega)
      rw [hWn] at H37 H38
      obtain ⟨nD, hnD⟩ : ∃ n, (degsC O).length = n := ⟨_, rfl⟩
      rw [hnD] at H37 H38 ⊢
      obtain ⟨T, hT⟩ : ∃ T, packC (degsC O) = T := ⟨_, rfl⟩
      rw [hT] at H38
      have HT := Lib.hid hT
      clear hrow hbld hb hdl hlies hrange hn hWn hnD hT hk hlt
      go_upto_region 19 with (first | (go_at_call 37; refine H37.out.mono ?_; rintro e w7 ⟨rfl, rfl⟩) | (go_at_call 38; refine H38.out.mono ?_; rintro e w8 ⟨rfl, hb8⟩; have HB8 := Lib.hid hb8; clear hb8))
      obtain ⟨g, hbg⟩ := bld_of HBLD.out (by
        obtain ⟨x, hx⟩ : ∃ p, O[0]? = some p := ⟨O[0]'(by have := HF.out.len; have := HF.out.h1; omega), List.getElem?_eq_getElem _⟩
        intro e
        have hm := List.mem_of_getElem? hx
        obtain ⟨z, r, hz⟩ := List.exists_cons_of_ne_nil (encL_ne x)
        have : z ∈ O.flatMap encL := List.mem_flatMap.2 ⟨x, hm, by rw [hz]; exact List.mem_cons_self⟩
        rw [e] at this
        cases this)
      have HBG := Lib.hid hbg
      have HB78 := Lib.hid (show Below B w7 w8 from HB8.out.mono (Nat.le_trans (Nat.le_of_eq HBX.out.symm) HBR.out.size))
      have hxlt := HBW.out
      have HSZ7 := Lib.hid (Nat.le_trans (Nat.le_of_eq HBX.out.symm) HBR.out.size)
      obtain ⟨acc, hacc⟩ : ∃ acc, O.flatMap encL = acc := ⟨_, rfl⟩
      rw [hacc] at HBG
      have HACC := Lib.hid hacc
      have HEC := Lib.hid (show EC w.heap.size B g lo hi A O.length c acc ((UInt8.ofNat Wn).toNat : Int) w2 none w8.drew from
        have k1 : Below B w2 w8 := HBR.out.trans HB78.out
        have k2 : Below B w2 w8.drew := k1.drew
        ⟨hxlt, (k2.cell (p := ⟨w.heap.size, 0, none⟩) hxlt).trans HG0.out, (k2.cell (p := ⟨w.heap.size, 1, none⟩) hxlt).trans HG1.out, (k2.cell (p := ⟨w.heap.size, 2, none⟩) hxlt).trans HG2.out, k2, Nat.le_trans HSZ7.out (Nat.le_trans HB78.out.size (Nat.le_refl _)), (HBG.out.to HB8.out).to ((Below.refl _ _).drew), fun r hr => by cases hr⟩)
      have hin := HF.out
      have hmb := HML.out O.length
      rw [List.take_length] at hmb
      have hfl := HFL.out O.length (Nat.le_refl _)
      rw [List.take_length, hacc] at hfl
      have HNE := Lib.hid (show acc ≠ [] from fun e => by
        have hl := HBG.out.row
        obtain ⟨x, hx⟩ : ∃ p, O[0]? = some p := ⟨O[0]'(by have := hin.len; have := hin.h1; omega), List.getElem?_eq_getElem _⟩
        have hm := List.mem_of_getElem? hx
        obtain ⟨z, r, hz⟩ := List.exists_cons_of_ne_nil (encL_ne x)
        have : z ∈ O.flatMap encL := List.mem_flatMap.2 ⟨x, hm, by rw [hz]; exact List.mem_cons_self⟩
        rw [hacc, e] at this
        cases this)
      obtain ⟨mO, hmO⟩ : ∃ m, manyC O = m := ⟨_, rfl⟩
      have HMANY := Lib.hid (fun V (hb : Below B w2 V) => many_at lo hi A c O V (HL.out.below (HB23.out.trans (hb.mono (Nat.le_of_lt HBW.out))) (Nat.le_refl _)) (by have := HN.out; omega) (by omega))
      unfold shV at HMANY
      have HP1 := Lib.hid (fun V => putx_at lo V (by have := hin.h0; omega) (by have := hin.h1; have := hin.h2; omega))
      have HP2 := Lib.hid (fun V => putx_at hi V (by have := hin.h0; have := hin.h1; omega) (by have := hin.h2; omega))
      have HP3 := Lib.hid (fun V => putx_at (mO : Int) V (by omega) (by omega))
      have hq1 := putC_nat lo hin.h0
      have hq2 := putC_nat hi (by have := hin.h0; have := hin.h1; omega)
      have hq3 := putC_nat (mO : Int) (by omega)
      rw [hmO] at hmb hfl HMANY
      have hs1 : (putC lo).size ≤ 10 := by rw [hq1, bytesB_size]; exact enc_len10 (by have := hin.h1; have := hin.h2; omega)
      have hs2 : (putC hi).size ≤ 10 := by rw [hq2, bytesB_size]; exact enc_len10 (by have := hin.h2; omega)
      have hs3 : (putC (mO : Int)).size ≤ 10 := by rw [hq3, bytesB_size]; exact enc_len10 (by omega)
      obtain ⟨P1, hP1⟩ : ∃ P, putC lo = P := ⟨_, rfl⟩
      obtain ⟨P2, hP2⟩ : ∃ P, putC hi = P := ⟨_, rfl⟩
      obtain ⟨P3, hP3⟩ : ∃ P, putC (mO : Int) = P := ⟨_, rfl⟩
      rw [hP1] at HP1 hq1 hs1
      rw [hP2] at HP2 hq2 hs2
      rw [hP3] at HP3 hq3 hs3
      have ht : T.length ≤ 10 * 256 + 10 := by
        rw [← HT.out]
        have := packC_len (degsC O)
        rw [degs_len] at this
        have := HN.out
        omega
      obtain ⟨TB, hTB⟩ : ∃ t, bytesB T = t := ⟨_, rfl⟩
      have hst : TB.size ≤ 10 * 256 + 10 := by rw [← hTB, bytesB_size]; exact ht
      obtain ⟨LB, hLB⟩ : ∃ t, bytesB acc = t := ⟨_, rfl⟩
      have hsl : LB.size ≤ 100000 := by rw [← hLB, bytesB_size]; have := HN.out; omega
      obtain ⟨YB, hYB⟩ : ∃ t, bytesB [UInt8.ofNat Wn] = t := ⟨_, rfl⟩
      have hsy : YB.size = 1 := by rw [← hYB]; rfl
      have HLB := Lib.hid hLB
      have HYB := Lib.hid hYB
      obtain ⟨y0, hy0⟩ : ∃ y, IntKind.u8.wrap (Wn : Int) = y := ⟨_, rfl⟩
      have hy1 : y0 = ((UInt8.ofNat Wn).toNat : Int) := by rw [← hy0]; exact byte_wrap Wn
      have HY0 := Lib.hid hy1
      rw [← hy1] at HEC
      have hsh : (⟨#[115, 104]⟩ : ByteArray).size = 2 := rfl
      have z1 : ¬ 9223372036854775807 < 2 + P1.size := by omega
      obtain ⟨C1, hC1⟩ : ∃ C, (⟨#[115, 104]⟩ : ByteArray) ++ P1 = C := ⟨_, rfl⟩
      have y1 : C1.size ≤ 12 := by rw [← hC1, ByteArray.size_append]; omega
      have z2 : ¬ 9223372036854775807 < C1.size + P2.size := by omega
      obtain ⟨C2, hC2⟩ : ∃ C, C1 ++ P2 = C := ⟨_, rfl⟩
      have y2 : C2.size ≤ 22 := by rw [← hC2, ByteArray.size_append]; omega
      have z3 : ¬ 9223372036854775807 < C2.size + YB.size := by omega
      obtain ⟨C3, hC3⟩ : ∃ C, C2 ++ YB = C := ⟨_, rfl⟩
      have y3 : C3.size ≤ 23 := by rw [← hC3, ByteArray.size_append]; omega
      have z4 : ¬ 9223372036854775807 < C3.size + TB.size := by omega
      obtain ⟨C4, hC4⟩ : ∃ C, C3 ++ TB = C := ⟨_, rfl⟩
      have y4 : C4.size ≤ 3000 := by rw [← hC4, ByteArray.size_append]; omega
      have z5 : ¬ 9223372036854775807 < C4.size + LB.size := by omega
      obtain ⟨C5, hC5⟩ : ∃ C, C4 ++ LB = C := ⟨_, rfl⟩
      have y5 : C5.size ≤ 103000 := by rw [← hC5, ByteArray.size_append]; omega
      have z6 : ¬ 9223372036854775807 < C5.size + P3.size := by omega
      obtain ⟨C6, hC6⟩ : ∃ C, C5 ++ P3 = C := ⟨_, rfl⟩
      have y6 : C6.size ≤ 103010 := by rw [← hC6, ByteArray.size_append]; omega
      have HSEAL := Lib.hid (fun V => sealed_at C6 V (by omega))
      have hbody : C6 = bytesB (bodyL lo hi O) := by
        rw [← hC6, ← hC5, ← hC4, ← hC3, ← hC2, ← hC1, ← hTB, ← hYB, ← hLB, hq1, hq2, hq3, show (⟨#[115, 104]⟩ : ByteArray) = bytesB [115, 104] from rfl]
        simp only [bytesB_append]
        unfold bodyL
        rw [HWN.out, HT.out, hacc, hmO]
        simp
      have HBODY := Lib.hid (show sealB C6 = bytesB (Crc.sealL (bodyL lo hi O)) by
        unfold sealB
        rw [hbody])
      obtain ⟨SB, hSB⟩ : ∃ S, sealB C6 = S := ⟨_, rfl⟩
      rw [hSB] at HBODY HSEAL
      obtain ⟨FB, hFB⟩ : ∃ S, bytesB (Crc.sealL (bodyL lo hi O)) = S := ⟨_, rfl⟩
      rw [hFB] at HBODY
      rw [show (⟨T.toArray⟩ : ByteArray) = TB from hTB]
      clear hacc hxlt hbg G0 G1 G2 hin hmb hfl hmO hq1 hq2 hq3 hs1 hs2 hs3 hP1 hP2 hP3 ht hst hsl hsy hy1 hbody hSB y1 y2 y3 y4 y5 y6 hsh hLB hYB hTB
      refine Loo.wp_region_lays 12 13 65 (EC w.heap.size B g lo hi A O.length c acc y0 w2) (by kernel_rfl) (by kernel_rfl) HEC.out ?_
      refine Loo.walk_next ?_ (by decide) (by decide) (fun x V hV => ?_) ?_
      rotate_left
      · (clear hV; go_simp; with_reducible rfl)
      try simp only [Act.put, List.setIfInBounds_toArray, List.set_cons_zero, List.set_cons_succ, Nat.reduceAdd]
      refine Loo.walk_next ?_ (by decide) (by decide) (fun x V hV => ?_) ?_
      rotate_left
      · (clear hV; go_simp; with_reducible rfl)
      try simp only [Act.put, List.setIfInBounds_toArray, List.set_cons_zero, List.set_cons_succ, Nat.reduceAdd]
      refine Loo.walk_next ?_ (by decide) (by decide) (fun x V hV => ?_) ?_
      rotate_left
      · (have q0 := hV.c0; have q1 := hV.c1; have q2 := hV.c2; clear hV; go_simp; with_reducible rfl)
      try simp only [Act.put, List.setIfInBounds_toArray, List.set_cons_zero, List.set_cons_succ, Nat.reduceAdd]
      refine Loo.walk_next (.string P1) (by decide) (by decide) (fun x V hV => ?_) ?_
      · (have HV := Lib.hid hV; clear hV; go_simp; go_at_call 40; exact (HP1.out V).mono fun e w' h => ⟨h.1, HV.out.to h.2⟩)
      try simp only [Act.put, List.setIfInBounds_toArray, List.set_cons_zero, List.set_cons_succ, Nat.reduceAdd]
      refine Loo.walk_next ?_ (by decide) (by decide) (fun x V hV => ?_) ?_
      rotate_left
      · (clear hV; go_simp; with_reducible rfl)
      try simp only [Act.put, List.setIfInBounds_toArray, List.set_cons_zero, List.set_cons_succ, Nat.reduceAdd]
      refine Loo.walk_next ?_ (by decide) (by decide) (fun x V hV => ?_) ?_
      rotate_left
      · (clear hV; go_simp; with_reducible rfl)
      try simp only [Act.put, List.setIfInBounds_toArray, List.set_cons_zero, List.set_cons_succ, Nat.reduceAdd]
      refine Loo.walk_next ?_ (by decide) (by decide) (fun x V hV => ?_) ?_
      rotate_left
      · (clear hV; go_simp; with_reducible rfl)
      try simp only [Act.put, List.setIfInBounds_toArray, List.set_cons_zero, List.set_cons_succ, Nat.reduceAdd]
      refine Loo.walk_next ?_ (by decide) (by decide) (fun x V hV => ?_) ?_
      rotate_left
      · (have q0 := hV.c0; have q1 := hV.c1; have q2 := hV.c2; clear hV; go_simp; with_reducible rfl)
      try simp only [Act.put, List.setIfInBounds_toArray, List.set_cons_zero, List.set_cons_succ, Nat.reduceAdd]
      refine Loo.walk_next (.string P2) (by decide) (by decide) (fun x V hV => ?_) ?_
      · (have HV := Lib.hid hV; clear hV; go_simp; go_at_call 40; exact (HP2.out V).mono fun e w' h => ⟨h.1, HV.out.to h.2⟩)
      try simp only [Act.put, List.setIfInBounds_toArray, List.set_cons_zero, List.set_cons_succ, Nat.reduceAdd]
      refine Loo.walk_next ?_ (by decide) (by decide) (fun x V hV => ?_) ?_
      rotate_left
      · (clear hV; go_simp; with_reducible rfl)
      try simp only [Act.put, List.setIfInBounds_toArray, List.set_cons_zero, List.set_cons_succ, Nat.reduceAdd]
      refine Loo.walk_next ?_ (by decide) (by decide) (fun x V hV => ?_) ?_
      rotate_left
      · (clear hV; go_simp; with_reducible rfl)
      try simp only [Act.put, List.setIfInBounds_toArray, List.set_cons_zero, List.set_cons_succ, Nat.reduceAdd]
      refine Loo.walk_next ?_ (by decide) (by decide) (fun x V hV => ?_) ?_
      rotate_left
      · (clear hV; go_simp; with_reducible rfl)
      try simp only [Act.put, List.setIfInBounds_toArray, List.set_cons_zero, List.set_cons_succ, Nat.reduceAdd]
      refine Loo.walk_lays (fun V hV => ⟨.slice (some ⟨V.heap.size, 0, none⟩) 1 1, V.alloc (.cells #[.int .u8 y0] 5), ?_, hV.lays⟩) ?_
      · (clear hV; go_simp)
      try simp only [Act.put, List.setIfInBounds_toArray, List.set_cons_zero, List.set_cons_succ, Nat.reduceAdd]
      refine Loo.walk_reads ?_ (by decide) (fun r V hV => ?_) ?_
      rotate_left
      · (obtain ⟨k, rfl, hk, hne⟩ := hV.lay r rfl; have htx := text_one V k (UInt8.ofNat Wn) (by rw [← HY0.out]; exact hk); rw [HYB.out] at htx; clear hV hk hne; try simp only [Act.put, List.setIfInBounds_toArray, List.set_cons_zero, List.set_cons_succ, Nat.reduceAdd]; go_simp; with_reducible rfl)
      try simp only [Act.put, List.setIfInBounds_toArray, List.set_cons_zero, List.set_cons_succ, Nat.reduceAdd]
      refine Loo.walk_next ?_ (by decide) (by decide) (fun x V hV => ?_) ?_
      rotate_left
      · (clear hV; go_simp; with_reducible rfl)
      try simp only [Act.put, List.setIfInBounds_toArray, List.set_cons_zero, List.set_cons_succ, Nat.reduceAdd]
      refine Loo.walk_next ?_ (by decide) (by decide) (fun x V hV => ?_) ?_
      rotate_left
      · (clear hV; go_simp; with_reducible rfl)
      try simp only [Act.put, List.setIfInBounds_toArray, List.set_cons_zero, List.set_cons_succ, Nat.reduceAdd]
      refine Loo.walk_next ?_ (by decide) (by decide) (fun x V hV => ?_) ?_
      rotate_left
      · (clear hV; go_simp; with_reducible rfl)
      try simp only [Act.put, List.setIfInBounds_toArray, List.set_cons_zero, List.set_cons_succ, Nat.reduceAdd]
      refine Loo.walk_next (.string LB) (by decide) (by decide) (fun x V hV => ?_) ?_
      · (have HV := Lib.hid hV; clear hV; go_simp; go_at_call 41; exact (bstr2 B B g acc V HV.out.bld HNE.out).mono fun e w' h => ⟨by rw [← HLB.out]; exact h.1, HV.out.fr h.2.2 (fun k e => e) h.2.1⟩)
      try simp only [Act.put, List.setIfInBounds_toArray, List.set_cons_zero, List.set_cons_succ, Nat.reduceAdd]
      refine Loo.walk_next ?_ (by decide) (by decide) (fun x V hV => ?_) ?_
      rotate_left
      · (clear hV; go_simp; with_reducible rfl)
      try simp only [Act.put, List.setIfInBounds_toArray, List.set_cons_zero, List.set_cons_succ, Nat.reduceAdd]
      refine Loo.walk_next ?_ (by decide) (by decide) (fun x V hV => ?_) ?_
      rotate_left
      · (have q0 := hV.c0; have q1 := hV.c1; have q2 := hV.c2; clear hV; go_simp; with_reducible rfl)
      try simp only [Act.put, List.setIfInBounds_toArray, List.set_cons_zero, List.set_cons_succ, Nat.reduceAdd]
      refine Loo.walk_next (.int .i64 (mO : Int)) (by decide) (by decide) (fun x V hV => ?_) ?_
      · (have HV := Lib.hid hV; clear hV; go_simp; go_at_call 42; exact (HMANY.out V HV.out.below).mono fun e w' h => ⟨h.1, HV.out.to h.2⟩)
      try simp only [Act.put, List.setIfInBounds_toArray, List.set_cons_zero, List.set_cons_succ, Nat.reduceAdd]
      refine Loo.walk_next (.string P3) (by decide) (by decide) (fun x V hV => ?_) ?_
      · (have HV := Lib.hid hV; clear hV; go_simp; go_at_call 40; exact (HP3.out V).mono fun e w' h => ⟨h.1, HV.out.to h.2⟩)
      try simp only [Act.put, List.setIfInBounds_toArray, List.set_cons_zero, List.set_cons_succ, Nat.reduceAdd]
      refine Loo.walk_next ?_ (by decide) (by decide) (fun x V hV => ?_) ?_
      rotate_left
      · (clear hV; go_simp; with_reducible rfl)
      try simp only [Act.put, List.setIfInBounds_toArray, List.set_cons_zero, List.set_cons_succ, Nat.reduceAdd]
      refine Loo.walk_next (.string SB) (by decide) (by decide) (fun x V hV => ?_) ?_
      · (have HV := Lib.hid hV; clear hV; go_simp; go_at_call 39; exact (HSEAL.out V).mono fun e w' h => ⟨h.1, HV.out.to h.2⟩)
      try simp only [Act.put, List.setIfInBounds_toArray, List.set_cons_zero, List.set_cons_succ, Nat.reduceAdd]
      refine Loo.walk_next ?_ (by decide) (by decide) (fun x V hV => ?_) ?_
      rotate_left
      · (clear hV; go_simp; with_reducible rfl)
      try simp only [Act.put, List.setIfInBounds_toArray, List.set_cons_zero, List.set_cons_succ, Nat.reduceAdd]
      refine Loo.walk_next ?_ (by decide) (by decide) (fun x V hV => ?_) ?_
      rotate_left
      · (clear hV; go_simp; with_reducible rfl)
      try simp only [Act.put, List.setIfInBounds_toArray, List.set_cons_zero, List.set_cons_succ, Nat.reduceAdd]
      show ∀ r w', _ → _
      intro r w9 hw9
      have HW9 := Lib.hid hw9.below
      clear hw9
      try simp only [Act.put, List.setIfInBounds_toArray, List.set_cons_zero, List.set_cons_succ]
      go_wp2
      exact bodyPost_ret (v := .tuple #[.string SB, .int .i64 0]) (by simp [results, Try.results16, go_sem]) rfl ⟨by rw [hFB, ← HBODY.out], HB23.out.trans (HW9.out.mono (Nat.le_of_lt HBW.out))⟩
end Go.Proofs.Ytdlmkdldmiiaiaa.E
