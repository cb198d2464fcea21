/- ShardsBack walked. Conditions: those that the theorem names. -/
import Derived.Test.YtdlmkdldmiiaiaaMlw
import Derived.Test.YtdlmkdldmiiaiaaNon
namespace Go.Proofs.Ytdlmkdldmiiaiaa.E
open Go.RowKit Go.Sort Go.Shelf
open Go.Proofs.Ytdlmkdldmiiaiaa.Ma Go.Proofs.Ytdlmkdldmiiaiaa.By Go.Proofs.Ytdlmkdldmiiaiaa.Enc
set_option linter.unusedVariables false
set_option linter.unusedSimpArgs false
theorem seal_len {lo hi : Int} {O : List (List Int)} (f : Fits lo hi O) : (Crc.sealL (bodyL lo hi O)).length ≤ 100000 := by
  have h0 := f.h0
  have h1 := f.h1
  have h2 := f.h2
  have h3 := f.len
  have h4 := f.many
  have h5 := flat_len (O := O) (fun j L hj => (listC_in (f.each j L hj)).2) (by omega) O.length (Nat.le_refl _)
  rw [List.take_length] at h5
  have h6 := packC_len (degsC O)
  rw [degs_len] at h6
  have h7 := enc_len10 (u := lo.toNat) (by omega)
  have h8 := enc_len10 (u := hi.toNat) (by omega)
  have h9 := enc_len10 (u := manyC O) (by omega)
  have h10 : (Crc.sum4 (bodyL lo hi O)).length = 4 := rfl
  unfold Crc.sealL
  rw [List.length_append, h10]
  unfold bodyL
  simp only [List.length_append, List.length_cons, List.length_nil]
  omega
theorem seal_same {lo hi lo' hi' : Int} {O O' : List (List Int)} (f : Fits lo hi O) (f' : Fits lo' hi' O') :
    ((bytesB (Crc.sealL (bodyL lo' hi' O'))).toList == (bytesB (Crc.sealL (bodyL lo hi O))).toList) = sameC lo' hi' O' lo hi O := by
  rw [ByteArray.toList_eq, ByteArray.toList_eq, data_drop, data_drop, Bool.eq_iff_iff, beq_iff_eq]
  unfold sameC
  rw [decide_eq_true_iff]
  constructor
  · exact fun h => seal_inj f' f h
  · rintro ⟨rfl, rfl, rfl⟩
    rfl
theorem c_made (A : Option Addr) (cap : Nat) (x y : Int) (P : List Ed) (w : World) (hx8 : 0 ≤ x ∧ x ≤ 255) (hy8 : 0 ≤ y ∧ y ≤ 255) (hl : P.length ≤ 400) (hL : Lies D.enc8 2 w A P) (hb8 : ∀ p ∈ P, (0 ≤ p.1 ∧ p.1 ≤ 255) ∧ 0 ≤ p.2 ∧ p.2 ≤ 255) :
    Calls Try.prog 24 #[.int .u8 x, .int .u8 y, .slice A P.length cap] w fun e w' => ∃ v A2 c2 lo hi O, e = .returned (.tuple #[v, shV lo hi A2 O.length c2, .bool true]) ∧ LiesR w' A2 O ∧ Fits lo hi O ∧ Below w.heap.size w w' :=
  (made_at A cap x y P w hx8 hy8 hl hL hb8).mono fun e w' ⟨A1, c1, A2, c2, lo, hi, he, _, h2, _, h4, h5⟩ => by
    rw [made_mk hx8 h4] at he h2
    exact ⟨_, A2, c2, lo, hi, _, he, h2, made_fits hx8 h4 hl, h5⟩
set_option maxRecDepth 100000 in
set_option maxHeartbeats 8000000 in
theorem back_at (A : Option Addr) (cap : Nat) (x y : Int) (P : List Ed) (lo' hi' : Int) (A' : Option Addr) (c' : Nat) (O' : List (List Int)) (w : World) (hx8 : 0 ≤ x ∧ x ≤ 255) (hy8 : 0 ≤ y ∧ y ≤ 255) (hcl : P.length ≤ 9223372036854775807) (hL : Lies D.enc8 2 w A P) (hb8 : ∀ p ∈ P, (0 ≤ p.1 ∧ p.1 ≤ 255) ∧ 0 ≤ p.2 ∧ p.2 ≤ 255)
    (hL' : LiesR w A' O') (hn : O'.length ≤ 9223372036854775807) (hc : ∀ (j : Nat) (L : List Int), O'[j]? = some L → L.length ≤ 9223372036854775807) :
    Calls Try.prog 7 #[.agg #[.int .u8 x, .int .u8 y], .slice A P.length cap, shV lo' hi' A' O'.length c'] w fun e w' => e = .returned (.bool true) ∧ Below w.heap.size w w' := by
  unfold shV
  obtain ⟨W1, hW1, gW1, bW1, sW1⟩ := box_new w (.cells #[.int .u8 x, .int .u8 y] 45 (0, 0))
  obtain ⟨W0, hW0, gW0, bW0, sW0⟩ := box_new W1 (.cells #[.int .i64 lo', .int .i64 hi', .slice A' O'.length c'] 28 (0, 0))
  obtain ⟨Sb, hSb⟩ : ∃ S, W1.heap.size = S := ⟨_, rfl⟩
  rw [hSb] at gW0
  have HB0 := Lib.hid (show Below w.heap.size w W0 from bW1.trans (bW0.mono bW1.size))
  have HP := Lib.hid (fun V (h : Below W0.heap.size W0 V) => (Fr.of_below h).keep (show W0.heap[w.heap.size]? = some (.cells #[.int .u8 x, .int .u8 y] 45 (0, 0)) from (Fr.of_below bW0).keep gW1 (fun e => e)) (fun e => e))
  have HG := Lib.hid (fun V (h : Below W0.heap.size W0 V) => (Fr.of_below h).keep (show Box3 W0 Sb lo' hi' (.slice A' O'.length c') from gW0) (fun e => e))
  have HL := Lib.hid (fun V (h : Below W0.heap.size W0 V) => (hL'.below HB0.out (Nat.le_refl _)).below h (Nat.le_refl _))
  have HE := Lib.hid (fun V (h : Below W0.heap.size W0 V) => (hL.below HB0.out (Nat.le_refl _)).below h (Nat.le_refl _))
  obtain ⟨q0, q1, q2, _, _, _⟩ := Box3.cells (HG.out W0 (Below.refl _ _))
  by_cases hl : 400 < P.length
  · have h3 : (400 : Int) < P.length := by omega
    clear gW1 bW1 sW1 gW0 bW0 sW0 hl
    go_enter Try.func7, Try.ntmps7
    go_wp2
    go_ret
    exact ⟨rfl, HB0.out⟩
  have h3 : ¬ (400 : Int) < P.length := by omega
  have h4 : decide ((P.length : Int) > 400) = false := decide_eq_false h3
  have HGR := Lib.hid (great_at lo' hi' A' c' O' W0 (HL.out W0 (Below.refl _ _)) hn hc)
  unfold shV at HGR
  cases hgreat : greatC O' with
  | true =>
    rw [hgreat] at HGR
    clear hL hn hc hgreat gW1 bW1 sW1 gW0 bW0 sW0 hl
    go_enter Try.func7, Try.ntmps7
    go_wp2_with (go_at_call 18; refine (HGR.out).mono ?_; rintro e w2 ⟨rfl, hb2⟩; have HB2 := Lib.hid (HB0.out.trans (hb2.mono HB0.out.size)); clear hb2)
    go_ret
    exact ⟨rfl, HB2.out⟩
  | false =>
    rw [hgreat] at HGR
    obtain ⟨n1, n2⟩ := great_false hgreat
    have HDOES := Lib.hid (fun V => does_at V)
    have HX := Lib.hid (And.intro hx8 (show P.length ≤ 400 by omega))
    have HN12 := Lib.hid (And.intro n1 n2)
    have HMD := Lib.hid (fun V h => c_made A cap x y P V hx8 hy8 (by omega) h hb8)
    have HEN := Lib.hid (fun V h => encS_at lo' hi' A' c' O' V h (by omega) (by omega))
    unfold shV at HEN HMD
    rw [encS_two] at HEN
    clear hL hL' hn hc hgreat gW1 bW1 sW1 gW0 bW0 sW0 n1 n2 hx8 hy8 hb8 hcl hl
    go_enter Try.func7, Try.ntmps7
    go_upto_region 3 with (go_at_call 18; refine (HGR.out).mono ?_; rintro e w2 ⟨rfl, hb2⟩; have HB2 := Lib.hid hb2; clear hb2)
    have pp := HP.out w2 HB2.out
    have p0 := cell_of_heap (i := 0) (v := .int .u8 x) pp rfl
    have p1 := cell_of_heap (i := 1) (v := .int .u8 y) pp rfl
    clear pp q0 q1 q2
    go_upto_region 4 with (go_at_call 24; refine (HMD.out _ (HE.out _ HB2.out)).mono ?_; rintro e w3 ⟨v1, A2, c2, lo, hi, O, rfl, h2, h4, h5⟩; have HLR3 := Lib.hid h2; have HF := Lib.hid h4; have HB3 := Lib.hid (HB2.out.trans (h5.mono HB2.out.size)); clear h2 h4 h5)
    clear p0 p1
    obtain ⟨W4, hW4, gW4, bW4, sW4⟩ := box_new w3 (.cells #[.int .i64 lo, .int .i64 hi, .slice A2 O.length c2] 28 (0, 0))
    rw [hW4]
    have HB4 := Lib.hid (HB3.out.trans (bW4.mono HB3.out.size))
    have HG4 := Lib.hid (fun V (h : Below W4.heap.size W4 V) => (Fr.of_below h).keep (show Box3 W4 w3.heap.size lo hi (.slice A2 O.length c2) from gW4) (fun e => e))
    have HL4 := Lib.hid (fun V (h : Below W4.heap.size W4 V) => (HLR3.out.below bW4 (Nat.le_refl _)).below h (Nat.le_refl _))
    have HO := Lib.hid (show O.length ≤ 256 ∧ manyC O ≤ 4096 by have h := HF.out; have h1 := h.len; have h2 := h.h0; have h3 := h.h2; exact ⟨by omega, h.many⟩)
    have HSL := Lib.hid (seal_len HF.out)
    have HEN4 := Lib.hid (fun V h => encS_at lo hi A2 c2 O V h (by have := HO.out; omega) (by have := HO.out; omega))
    have HDE := Lib.hid (fun V => decS_at (bytesB (Crc.sealL (bodyL lo hi O))) V (by rw [bytesB_size]; have := HSL.out; omega))
    rw [decS_enc HF.out] at HDE
    rw [encS_fits HF.out] at HEN4
    have HSM := Lib.hid (fun A c V h h' => same_at lo hi A c O lo hi A2 c2 O V h h' (by have := HO.out; omega) (by have := HO.out; omega) (by have := HO.out; omega) (by have := HO.out; omega))
    rw [show sameC lo hi O lo hi O = true from by unfold sameC; simp] at HSM
    have HSO := Lib.hid (fun V h h' => same_at lo' hi' A' c' O' lo hi A2 c2 O V h h' (by have := HN12.out; omega) (by have := HN12.out; omega) (by have := HO.out; omega) (by have := HO.out; omega))
    obtain ⟨FB, hFB⟩ : ∃ F, bytesB (Crc.sealL (bodyL lo hi O)) = F := ⟨_, rfl⟩
    have HZ2 := Lib.hid (show (checkC lo' hi' O' = 0 ∧ ∃ F', bytesB (encS lo' hi' O').1 = F' ∧ (F'.toList == FB.toList) = sameC lo' hi' O' lo hi O) ∨ (checkC lo' hi' O' = 2 ∧ bytesB (encS lo' hi' O').1 = ⟨#[]⟩) from by
      by_cases h0 : checkC lo' hi' O' = 0
      · exact .inl ⟨h0, _, rfl, by rw [← hFB, encS_fits (fits_of h0)]; exact seal_same HF.out (fits_of h0)⟩
      · exact .inr ⟨checkC_two h0, by unfold encS; rw [if_neg h0]⟩)
    rw [hFB] at HDE
    dsimp only at HEN4
    rw [hFB] at HEN4
    unfold shV at HDE HEN4 HSM HSO
    dsimp only at HDE
    obtain ⟨Z, hZ⟩ : ∃ Z, w3.heap.size = Z := ⟨_, rfl⟩
    rw [hZ] at HG4 ⊢
    clear gW4 bW4 sW4 hW4 hZ hFB
    obtain ⟨r0, r1, r2, _, _, _⟩ := Box3.cells (HG4.out W4 (Below.refl _ _))
    go_upto_region 7 with (go_at_call 16; refine (HEN4.out _ (HL4.out W4 (Below.refl _ _))).mono ?_; rintro e w5 ⟨rfl, hb5⟩; have HB5 := Lib.hid hb5; clear hb5)
    clear r0 r1 r2
    go_upto_region 8 with (go_at_call 15; refine (HDE.out _).mono ?_; rintro e w6 ⟨A6, c6, rfl, h6, _, hb6⟩; have HR6 := Lib.hid h6; have HB6 := Lib.hid (HB5.out.trans (hb6.mono HB5.out.size)); clear h6 hb6)
    obtain ⟨W7, hW7, gW7, bW7, sW7⟩ := box_new w6 (.cells #[.int .i64 lo, .int .i64 hi, .slice A6 O.length c6] 28 (0, 0))
    rw [hW7]
    have HB7 := Lib.hid (HB6.out.trans (bW7.mono HB6.out.size))
    have HR7 := Lib.hid (HR6.out.below bW7 (Nat.le_refl _))
    obtain ⟨s0, s1, s2, _, _, _⟩ := Box3.cells (show Box3 W7 w6.heap.size lo hi (.slice A6 O.length c6) from gW7)
    obtain ⟨r0, r1, r2, _, _, _⟩ := Box3.cells (HG4.out W7 HB7.out)
    clear gW7 bW7 sW7 hW7
    go_upto_region 10 with (go_at_call 10; refine (HSM.out A6 c6 _ HR7.out (HL4.out _ HB7.out)).mono ?_; rintro e w8 ⟨rfl, hb8⟩; have HB8 := Lib.hid (HB7.out.trans (hb8.mono HB7.out.size)); clear hb8)
    clear r0 r1 r2 s0 s1 s2
    have HB08 := Lib.hid (show Below W0.heap.size W0 w8 from HB4.out.trans (HB8.out.mono HB4.out.size))
    obtain ⟨q0, q1, q2, _, _, _⟩ := Box3.cells (HG.out w8 HB08.out)
    rcases HZ2.out with ⟨hz, F', hz2, hz3⟩ | ⟨hz, hz2⟩
    · rw [hz] at HEN
      rw [hz2] at HEN
      have HB3' := Lib.hid hz3
      clear hz hz2 hz3
      go_upto_region 11 with (go_at_call 16; refine (HEN.out _ (HL.out _ HB08.out)).mono ?_; rintro e w9 ⟨rfl, hb9⟩; have HB9 := Lib.hid (HB8.out.trans (hb9.mono HB8.out.size)); clear hb9)
      clear q0 q1 q2
      have HB09 := Lib.hid (show Below W0.heap.size W0 w9 from HB4.out.trans (HB9.out.mono HB4.out.size))
      obtain ⟨q0, q1, q2, _, _, _⟩ := Box3.cells (HG.out w9 HB09.out)
      obtain ⟨r0, r1, r2, _, _, _⟩ := Box3.cells (HG4.out w9 HB9.out)
      cases hsame : sameC lo' hi' O' lo hi O with
      | true =>
        rw [hsame] at HSO
        have jb : (F'.toList == FB.toList) = true := by rw [HB3'.out, hsame]
        clear hsame
        go_wp2_with (first | (go_at_call 10; refine (HSO.out _ (HL.out _ HB09.out) (HL4.out _ HB9.out)).mono ?_; rintro e w10 ⟨rfl, hb10⟩; have HB10 := Lib.hid (HB09.out.trans (hb10.mono HB09.out.size)); clear hb10) | (go_at_call 14; refine (HDOES.out _).mono ?_; rintro e w11 ⟨rfl, hb11⟩; have HB11 := Lib.hid (HB10.out.trans (hb11.mono HB10.out.size)); clear hb11))
        go_ret
        exact ⟨rfl, HB0.out.trans (HB11.out.mono HB0.out.size)⟩
      | false =>
        rw [hsame] at HSO
        have jb : (F'.toList == FB.toList) = false := by rw [HB3'.out, hsame]
        clear hsame
        go_wp2_with (first | (go_at_call 10; refine (HSO.out _ (HL.out _ HB09.out) (HL4.out _ HB9.out)).mono ?_; rintro e w10 ⟨rfl, hb10⟩; have HB10 := Lib.hid (HB09.out.trans (hb10.mono HB09.out.size)); clear hb10) | (go_at_call 14; refine (HDOES.out _).mono ?_; rintro e w11 ⟨rfl, hb11⟩; have HB11 := Lib.hid (HB10.out.trans (hb11.mono HB10.out.size)); clear hb11))
        go_ret
        exact ⟨rfl, HB0.out.trans (HB11.out.mono HB0.out.size)⟩
    · rw [hz] at HEN
      rw [hz2] at HEN
      clear hz hz2
      go_upto_region 11 with (go_at_call 16; refine (HEN.out _ (HL.out _ HB08.out)).mono ?_; rintro e w9 ⟨rfl, hb9⟩; have HB9 := Lib.hid (HB8.out.trans (hb9.mono HB8.out.size)); clear hb9)
      clear q0 q1 q2
      go_wp2_with (go_at_call 14; refine (HDOES.out _).mono ?_; rintro e w11 ⟨rfl, hb11⟩; have HB11 := Lib.hid (HB9.out.trans (hb11.mono HB9.out.size)); clear hb11)
      go_ret
      exact ⟨rfl, HB0.out.trans ((HB4.out.trans (HB11.out.mono HB4.out.size)).mono HB0.out.size)⟩
end Go.Proofs.Ytdlmkdldmiiaiaa.E
