/- ShardsTurned walked. Conditions: those that the theorem names. -/
import Derived.Test.YtdlmkdldmiiaiaaTpl
namespace Go.Proofs.Ytdlmkdldmiiaiaa.E
open Go.RowKit Go.Sort Go.Shelf
open Go.Proofs.Ytdlmkdldmiiaiaa.Ma Go.Proofs.Ytdlmkdldmiiaiaa.By Go.Proofs.Ytdlmkdldmiiaiaa.Enc
set_option linter.unusedVariables false
set_option linter.unusedSimpArgs false
set_option maxRecDepth 100000 in
set_option maxHeartbeats 8000000 in
theorem turned_at (A : Option Addr) (cap : Nat) (x y : Int) (P : List Ed) (p : Int) (b : Nat) (w : World) (hx8 : 0 ≤ x ∧ x ≤ 255) (hy8 : 0 ≤ y ∧ y ≤ 255) (hcl : P.length ≤ 9223372036854775807) (hL : Lies D.enc8 2 w A P) (hb8 : ∀ p ∈ P, (0 ≤ p.1 ∧ p.1 ≤ 255) ∧ 0 ≤ p.2 ∧ p.2 ≤ 255)
    (hp : 0 ≤ p ∧ p ≤ 4294967295) (hb : b < 4294967296) :
    Calls Try.prog 8 #[.agg #[.int .u8 x, .int .u8 y], .slice A P.length cap, .agg #[.int .u32 p, .int .u32 (b : Int)]] w fun e w' => e = .returned (.bool true) ∧ Below w.heap.size w w' := by
  obtain ⟨W1, hW1, gW1, bW1, sW1⟩ := box_new w (.cells #[.int .u8 x, .int .u8 y] 45 (0, 0))
  obtain ⟨W0, hW0, gW0, bW0, sW0⟩ := box_new W1 (.cells #[.int .u32 p, .int .u32 (b : Int)] 51 (0, 0))
  obtain ⟨Sb, hSb⟩ : ∃ S, W1.heap.size = S := ⟨_, rfl⟩
  rw [hSb] at gW0
  have HB0 := Lib.hid (show Below w.heap.size w W0 from bW1.trans (bW0.mono bW1.size))
  have HP := Lib.hid (show W0.heap[w.heap.size]? = some (.cells #[.int .u8 x, .int .u8 y] 45 (0, 0)) from (Fr.of_below bW0).keep gW1 (fun e => e))
  have HG := Lib.hid (fun V (h : Below W0.heap.size W0 V) => (Fr.of_below h).keep (show W0.heap[Sb]? = some (.cells #[.int .u32 p, .int .u32 (b : Int)] 51 (0, 0)) from gW0) (fun e => e))
  have HE := Lib.hid (hL.below HB0.out (Nat.le_refl _))
  by_cases hl : 400 < P.length
  · have h3 : (400 : Int) < P.length := by omega
    clear gW1 bW1 sW1 gW0 bW0 sW0 hl
    go_enter Try.func8, Try.ntmps8
    go_wp2
    go_ret
    exact ⟨rfl, HB0.out⟩
  have h3 : ¬ (400 : Int) < P.length := by omega
  have h4 : decide ((P.length : Int) > 400) = false := decide_eq_false h3
  have HDOES := Lib.hid (fun V => does_at V)
  have HMD := Lib.hid (c_made A cap x y P W0 hx8 hy8 (by omega) HE.out hb8)
  unfold shV at HMD
  have p0 := cell_of_heap (i := 0) (v := .int .u8 x) HP.out rfl
  have p1 := cell_of_heap (i := 1) (v := .int .u8 y) HP.out rfl
  have HPB := Lib.hid (And.intro hp hb)
  clear hL gW1 bW1 sW1 gW0 bW0 sW0 hx8 hy8 hb8 hcl hl hp hb
  go_enter Try.func8, Try.ntmps8
  go_upto_region 4 with (go_at_call 24; refine HMD.out.mono ?_; rintro e w3 ⟨v1, A2, c2, lo, hi, O, rfl, h2, h4, h5⟩; have HLR3 := Lib.hid h2; have HF := Lib.hid h4; have HB3 := Lib.hid h5; clear h2 h4 h5)
  clear p0 p1
  obtain ⟨W4, hW4, gW4, bW4, sW4⟩ := box_new w3 (.cells #[.int .i64 lo, .int .i64 hi, .slice A2 O.length c2] 28 (0, 0))
  rw [hW4]
  have HB4 := Lib.hid (HB3.out.trans (bW4.mono HB3.out.size))
  have HL4 := Lib.hid (HLR3.out.below bW4 (Nat.le_refl _))
  obtain ⟨r0, r1, r2, _, _, _⟩ := Box3.cells gW4
  have HO := Lib.hid (show O.length ≤ 256 ∧ manyC O ≤ 4096 by have h := HF.out; have h1 := h.len; have h2 := h.h0; have h3 := h.h2; exact ⟨by omega, h.many⟩)
  have HSL := Lib.hid (seal_len HF.out)
  have HEN4 := Lib.hid (encS_at lo hi A2 c2 O W4 HL4.out (by have := HO.out; omega) (by have := HO.out; omega))
  rw [encS_fits HF.out] at HEN4
  dsimp only at HEN4
  unfold shV at HEN4
  obtain ⟨l, hl⟩ : ∃ l, Crc.sealL (bodyL lo hi O) = l := ⟨_, rfl⟩
  have HLL := Lib.hid hl
  rw [hl] at HEN4
  obtain ⟨n, hn⟩ : ∃ n, l.length = n := ⟨_, rfl⟩
  have hbs : (bytesB l).size = n := by rw [bytesB_size, hn]
  have hn4 : 4 ≤ n ∧ n ≤ 100000 := by
    have := HSL.out
    rw [hl, hn] at this
    refine ⟨?_, this⟩
    rw [← hn, ← hl]
    unfold Crc.sealL
    rw [List.length_append]
    have : (Crc.sum4 (bodyL lo hi O)).length = 4 := rfl
    omega
  have HN := Lib.hid hn
  have HN4 := Lib.hid hn4
  have i0 : ¬ (n : Int) < 4 := by omega
  have i1 : decide ((n : Int) < 4) = false := decide_eq_false i0
  have HBY := Lib.hid (fun V => bytes_of V l)
  rw [hn] at HBY
  obtain ⟨FB, hFB⟩ : ∃ F, bytesB l = F := ⟨_, rfl⟩
  have HFB := Lib.hid hFB
  rw [hFB] at HEN4 HBY hbs
  obtain ⟨Z, hZ⟩ : ∃ Z, w3.heap.size = Z := ⟨_, rfl⟩
  rw [hZ] at r0 r1 r2 ⊢
  clear gW4 bW4 sW4 hW4 hZ hFB hl hn
  go_upto_region 9 with (go_at_call 16; refine HEN4.out.mono ?_; rintro e w5 ⟨rfl, hb5⟩; have HB5 := Lib.hid (HB4.out.trans (hb5.mono HB4.out.size)); clear hb5)
  clear r0 r1 r2
  obtain ⟨W9, c9, C, hcv, hg9, hb9, hC9⟩ := HBY.out w5
  have HB9 := Lib.hid (HB5.out.trans (hb9.mono HB5.out.size))
  have HBY9 := Lib.hid hb9
  obtain ⟨G, hG⟩ : ∃ G, w5.heap.size = G := ⟨_, rfl⟩
  rw [hG] at hg9 hcv
  have HG9 := Lib.hid hg9
  have HC9 := Lib.hid hC9
  have HLT := Lib.hid (show W0.heap.size ≤ G by rw [← hG]; exact HB5.out.size)
  obtain ⟨m, hm⟩ : ∃ m : Nat, (n : Int) - 3 = (m : Int) := ⟨n - 3, by omega⟩
  have hm1 : 1 ≤ m ∧ m ≤ 100000 ∧ n = m + 3 := by omega
  obtain ⟨a, ha⟩ : ∃ a : Nat, p.tmod (m : Int) = (a : Int) := ⟨(p.tmod (m : Int)).toNat, by have := Int.emod_nonneg p (show (m : Int) ≠ 0 by omega); rw [Int.tmod_eq_emod_of_nonneg HPB.out.1.1]; omega⟩
  have ham : a < m := by
    have := Int.emod_lt_of_pos p (show 0 < (m : Int) by omega)
    rw [Int.tmod_eq_emod_of_nonneg HPB.out.1.1] at ha
    omega
  have wm : IntKind.u32.wrap (m : Int) = (m : Int) := by simp only [IntKind.wrap, IntKind.bits, IntKind.signed]; simp; omega
  have wa : IntKind.u32.wrap (a : Int) = (a : Int) := by simp only [IntKind.wrap, IntKind.bits, IntKind.signed]; simp; omega
  have wa2 : IntKind.i64.wrap (a : Int) = (a : Int) := IntWalk.i64_in _ ⟨by omega, by omega⟩
  have wm2 : IntKind.i64.wrap (m : Int) = (m : Int) := IntWalk.i64_in _ ⟨by omega, by omega⟩
  have m0 : ¬ m = 0 := by omega
  have m0' : ¬ (m : Int) = 0 := by omega
  have HAM := Lib.hid (And.intro ham hm1)
  have gg := HG.out W9 HB9.out
  have g0 := cell_of_heap (i := 0) (v := .int .u32 p) gg rfl
  have g1 := cell_of_heap (i := 1) (v := .int .u32 (b : Int)) gg rfl
  clear hb9 hC9 hg9 gg ham hm1 hn4
  go_wp2
  have HB9G := Lib.hid (show Below G w5 W9 by rw [← hG]; exact HBY9.out)
  have HB05 := HB5
  clear g0
  go_loopw [14] (fun i wi => ∃ k : Nat, i = .int .i64 (k : Int) ∧ k ≤ 4 ∧ (∃ C' : Array Value, wi.heap[G]? = some (.cells C' 5 (C'.size, C'.size + 1)) ∧ ∀ (j : Nat) (z : UInt8), (turnK l a b k)[j]? = some z → C'[j]? = some (Value.int .u8 (z.toNat : Int))) ∧ Below G w5 wi) (fun i _ => 4 - (intOf i).toNat)
  case atStart => exact ⟨0, rfl, by omega, ⟨C, HG9.out, HC9.out⟩, HB9G.out⟩
  case round =>
    obtain ⟨k, rfl, hk, ⟨C', hg, hC⟩, hbr⟩ := hrel
    have HGr := Lib.hid hg
    have HCr := Lib.hid hC
    have HBr := Lib.hid hbr
    have HB0r := Lib.hid (show Below W0.heap.size W0 wr from HB5.out.trans (hbr.mono HLT.out))
    by_cases hlt : k < 4
    · have hak : a + k < l.length := by have := HAM.out; have := HN.out; omega
      obtain ⟨z, hz⟩ : ∃ z, l[a + k]? = some z := ⟨_, List.getElem?_eq_getElem hak⟩
      have hcz := hC (a + k) z (by rw [turn_at l a b (a + k) k (Nat.le_refl _)]; exact hz)
      obtain ⟨zn, hzn⟩ : ∃ zn : Nat, z.toNat = zn := ⟨_, rfl⟩
      obtain ⟨un, hun⟩ : ∃ un : Nat, (tB b k).toNat = un := ⟨_, rfl⟩
      obtain ⟨rn, hrn⟩ : ∃ rn : Nat, (z ^^^ tB b k).toNat = rn := ⟨_, rfl⟩
      have hx := bits_xor_u8 z (tB b k)
      rw [hzn, hun, hrn] at hx
      rw [hzn] at hcz
      obtain ⟨q, hq⟩ : ∃ q : Nat, b / 2 ^ (8 * k) = q := ⟨_, rfl⟩
      have hq32 : q < 4294967296 := by rw [← hq]; exact Nat.lt_of_le_of_lt (Nat.div_le_self _ _) HPB.out.2
      have HXV := Lib.hid (show bits .xor .u8 (zn : Int) ((b : Int) / 2 ^ (8 * k) % 256) = (rn : Int) by
        have hub : ((b : Int) / 2 ^ (8 * k) % 256) = (un : Int) := by
          rw [← hun]
          unfold tB
          simp
        rw [hub]
        exact hx)
      have wq : IntKind.u8.wrap (q : Int) = (un : Int) := by
        rw [← hun, ← hq]
        unfold tB
        simp only [IntKind.wrap, IntKind.bits, IntKind.signed]
        simp
      have wq32 : IntKind.u32.wrap (q : Int) = (q : Int) := by simp only [IntKind.wrap, IntKind.bits, IntKind.signed]; simp; omega
      have fq : (b : Int).fdiv (2 ^ (8 * k)) = (q : Int) := by
        rw [Int.fdiv_eq_ediv_of_nonneg _ (by exact_mod_cast Nat.zero_le _), ← hq]
        push_cast
        rfl
      have HSTEP := Lib.hid (show ∀ (j : Nat) (y : UInt8), (turnK l a b (k + 1))[j]? = some y → (C'.setIfInBounds (a + k) (.int .u8 (rn : Int)))[j]? = some (Value.int .u8 (y.toNat : Int)) from fun j y hy => by
        rw [turnK, hz, Option.getD_some] at hy
        have hlt2 : a + k < C'.size := (Array.getElem?_eq_some_iff.1 hcz).1
        rw [Array.getElem?_setIfInBounds]
        by_cases hj : a + k = j
        · subst hj
          rw [List.getElem?_set_self (by rw [turn_len]; exact hak)] at hy
          obtain rfl := Option.some.inj hy
          rw [if_pos rfl, if_pos hlt2, hrn]
        · rw [List.getElem?_set_ne hj] at hy
          rw [if_neg hj]
          exact hC j y hy)
      have j1 : (k : Int) < 4 := by omega
      obtain ⟨ak, hakn⟩ : ∃ ak : Nat, a + k = ak := ⟨_, rfl⟩
      have ba : ak ≤ 100100 := by have := HAM.out; omega
      have bb : (ak : Int) < (n : Int) := by have := HN.out; omega
      have wak : IntKind.i64.wrap ((a : Int) + (k : Int)) = (ak : Int) := by rw [show (a : Int) + (k : Int) = (ak : Int) by omega]; exact IntWalk.i64_in _ ⟨by omega, by omega⟩
      rw [hakn] at HSTEP
      have w8 : IntKind.i64.wrap (8 * (k : Int)) = 8 * (k : Int) := IntWalk.i64_in _ ⟨by omega, by omega⟩
      have HK := Lib.hid hlt
      have gg := HG.out wr HB0r.out
      have g1r := cell_of_heap (i := 1) (v := .int .u32 (b : Int)) gg rfl
      rw [hakn] at hcz
      have hcw := cell_of_heap (i := ak) hg hcz
      have hfw : wr.frozen? ⟨G, ak, none⟩ = false := by
        have : ak < C'.size := (Array.getElem?_eq_some_iff.1 hcz).1
        simp [World.frozen?, hg]
        omega
      clear hakn ba g1 hg hC hbr hk hlt hak hz hcz hzn hun hrn hq gg hq32
      go_upto_region 14 with (fail)
      refine region_tail 18 (by kernel_rfl) (by kernel_rfl) fun wd hwd => ?_
      simp only [List.take_succ_cons, List.take_zero, List.drop_succ_cons, List.drop_zero]
      have d1 : wd.cell? ⟨Sb, 1, none⟩ = some (.int .u32 (b : Int)) := by rw [hwd]; exact g1r
      have d2 : wd.cell? ⟨G, ak, none⟩ = some (.int .u8 (zn : Int)) := by rw [hwd]; exact hcw
      have d3 : wd.frozen? ⟨G, ak, none⟩ = false := by rw [hwd]; exact hfw
      have HGd := Lib.hid (show wd.heap[G]? = some (.cells C' 5 (C'.size, C'.size + 1)) by rw [hwd]; exact HGr.out)
      have HBd := Lib.hid (show Below G w5 wd by rw [hwd]; exact HBr.out.drew)
      clear g1r hcw hfw hwd
      repeat still_step
      refine wpStill_nil ?_
      go_wp2
      go_roundw
      case rel =>
        rw [HXV.out]
        refine ⟨k + 1, by go_num, HK.out, ⟨C'.setIfInBounds ak (.int .u8 (rn : Int)), ?_, HSTEP.out⟩, HBd.out.trans ((Fr.setCell wd ⟨G, ak, none⟩ _).below (Nat.le_of_lt (lt_of_heap HGd.out)) (fun j e => by have e' : j = G := e; omega))⟩
        rw [Array.size_setIfInBounds]
        exact heap_setCell_at HGd.out (i := ak) (.int .u8 (rn : Int))
      case measure => have := HK.out; simp [intOf]; omega
    · obtain rfl : k = 4 := by omega
      clear hk hlt hg hC hbr
      have gg := HG.out wr HB0r.out
      have g1r := cell_of_heap (i := 1) (v := .int .u32 (b : Int)) gg rfl
      obtain ⟨T, hT⟩ : ∃ T, bytesB (turnK l a b 4) = T := ⟨_, rfl⟩
      have htx := fun c => text_of (c := c) (n := n) (y := turnK l a b 4) (by rw [turn_len, HN.out]) HGr.out HCr.out
      rw [hT] at htx
      have hTl : T.size = n := by rw [← hT, bytesB_size, turn_len, HN.out]
      have hD : decS T = if b = 0 then (lo, hi, O, 0) else (0, 0, [], 10) := by
        rw [← hT, ← HLL.out]
        exact decS_turn HF.out (by rw [HLL.out, HN.out]; have := HAM.out; omega) HPB.out.2
      have HD1 := Lib.hid (fun V => decS_at T V (by have := HN4.out; omega))
      have hE : FB.extract 0 a = bytesB ((Crc.sealL (bodyL lo hi O)).take a) := by
        rw [← HFB.out, HLL.out]
        apply ByteArray.ext
        rw [ByteArray.data_extract]
        apply Array.toList_inj.1
        simp
      have hD2 : decS (FB.extract 0 a) = (0, 0, [], 10) := by
        rw [hE]
        exact decS_cut HF.out (by rw [HLL.out, HN.out]; have := HAM.out; omega)
      have HD2 := Lib.hid (fun V => decS_at (FB.extract 0 a) V (by rw [hE, bytesB_size, List.length_take, HLL.out, HN.out]; have := HN4.out; omega))
      rw [hD2] at HD2
      have la : (a : Int) ≤ (n : Int) := by have := HAM.out; omega
      have la2 : a ≤ n := by have := HAM.out; omega
      unfold shV at HD2
      dsimp only at HD2
      clear gg g1 hT hE hD2
      simp only [List.length_nil] at HD2
      by_cases hb0 : b = 0
      · rw [hD, if_pos hb0] at HD1
        unfold shV at HD1
        dsimp only at HD1
        subst hb0
        clear hD
        go_upto_region 16 with (go_at_call 15; refine (HD1.out _).mono ?_; rintro e wa ⟨A6, c6, rfl, _, _, hba⟩; have HBa := Lib.hid (HB0r.out.trans (hba.mono HB0r.out.size)); clear hba)
        obtain ⟨W7, hW7, gW7, bW7, sW7⟩ := box_new wa (.cells #[.int .i64 lo, .int .i64 hi, .slice A6 O.length c6] 28 (0, 0))
        rw [hW7]
        have HB7 := Lib.hid (HBa.out.trans (bW7.mono HBa.out.size))
        clear gW7 bW7 sW7 hW7
        go_upto_region 17 with (go_at_call 15; refine (HD2.out _).mono ?_; rintro e wb ⟨A7, c7, rfl, _, _, hbb⟩; have HBb := Lib.hid (HB7.out.trans (hbb.mono HB7.out.size)); clear hbb)
        obtain ⟨W8, hW8, gW8, bW8, sW8⟩ := box_new wb (.cells #[.int .i64 0, .int .i64 0, .slice A7 0 c7] 28 (0, 0))
        rw [hW8]
        have HB8 := Lib.hid (HBb.out.trans (bW8.mono HBb.out.size))
        clear gW8 bW8 sW8 hW8 g1r
        have g18 := cell_of_heap (i := 1) (HG.out W8 HB8.out) rfl
        go_wp2_with (go_at_call 14; refine (HDOES.out _).mono ?_; rintro e wc ⟨rfl, hbc⟩; have HBc := Lib.hid (HB8.out.trans (hbc.mono HB8.out.size)); clear hbc)
        go_ret
        exact ⟨rfl, HB0.out.trans (HBc.out.mono HB0.out.size)⟩
      · rw [hD, if_neg hb0] at HD1
        unfold shV at HD1
        dsimp only at HD1
        simp only [List.length_nil] at HD1
        have hb1 : ¬ (b : Int) = 0 := by omega
        have hb2 : ((b : Int) == 0) = false := by rw [beq_eq_false_iff_ne]; exact hb1
        clear hD
        go_upto_region 16 with (go_at_call 15; refine (HD1.out _).mono ?_; rintro e wa ⟨A6, c6, rfl, _, _, hba⟩; have HBa := Lib.hid (HB0r.out.trans (hba.mono HB0r.out.size)); clear hba)
        obtain ⟨W7, hW7, gW7, bW7, sW7⟩ := box_new wa (.cells #[.int .i64 0, .int .i64 0, .slice A6 0 c6] 28 (0, 0))
        rw [hW7]
        have HB7 := Lib.hid (HBa.out.trans (bW7.mono HBa.out.size))
        clear gW7 bW7 sW7 hW7
        go_upto_region 17 with (go_at_call 15; refine (HD2.out _).mono ?_; rintro e wb ⟨A7, c7, rfl, _, _, hbb⟩; have HBb := Lib.hid (HB7.out.trans (hbb.mono HB7.out.size)); clear hbb)
        obtain ⟨W8, hW8, gW8, bW8, sW8⟩ := box_new wb (.cells #[.int .i64 0, .int .i64 0, .slice A7 0 c7] 28 (0, 0))
        rw [hW8]
        have HB8 := Lib.hid (HBb.out.trans (bW8.mono HBb.out.size))
        clear gW8 bW8 sW8 hW8 g1r
        have g18 := cell_of_heap (i := 1) (HG.out W8 HB8.out) rfl
        go_wp2_with (go_at_call 14; refine (HDOES.out _).mono ?_; rintro e wc ⟨rfl, hbc⟩; have HBc := Lib.hid (HB8.out.trans (hbc.mono HB8.out.size)); clear hbc)
        go_ret
        exact ⟨rfl, HB0.out.trans (HBc.out.mono HB0.out.size)⟩
end Go.Proofs.Ytdlmkdldmiiaiaa.E
