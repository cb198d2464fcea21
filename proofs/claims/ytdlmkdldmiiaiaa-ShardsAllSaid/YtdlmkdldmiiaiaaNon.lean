/- Great; ShardsNone, walked. Conditions: those that each theorem names. -/
import Derived.Test.YtdlmkdldmiiaiaaWay
namespace Go.Proofs.Ytdlmkdldmiiaiaa.E
open Go.RowKit Go.Sort Go.Shelf
open Go.Proofs.Ytdlmkdldmiiaiaa.Ma Go.Proofs.Ytdlmkdldmiiaiaa.By Go.Proofs.Ytdlmkdldmiiaiaa.Enc
set_option linter.unusedVariables false
set_option linter.unusedSimpArgs false
def greatGo : List (List Int) → Nat → Bool
  | [], _ => false
  | L :: r, m => (decide (300 < L.length) || decide (5000 < m + L.length)) || greatGo r (m + L.length)
/-- Is a shard more than is gone through? -/
def greatC (O : List (List Int)) : Bool := greatGo O 0 || decide (300 < O.length)
theorem greatGo_false : ∀ {O : List (List Int)} {m : Nat}, greatGo O m = false → (m ≤ 5000 → m + manyC O ≤ 5000) := by
  intro O
  induction O with
  | nil => intro m _ h; simpa [manyC] using h
  | cons L r ih =>
    intro m h _
    unfold greatGo at h
    rw [Bool.or_eq_false_iff, Bool.or_eq_false_iff, decide_eq_false_iff_not, decide_eq_false_iff_not] at h
    have := ih h.2 (by omega)
    have e : manyC (L :: r) = L.length + manyC r := by unfold manyC; simp
    omega
theorem great_false {O : List (List Int)} (h : greatC O = false) : O.length ≤ 300 ∧ manyC O ≤ 5000 := by
  unfold greatC at h
  rw [Bool.or_eq_false_iff, decide_eq_false_iff_not] at h
  have := greatGo_false h.1 (by omega)
  omega
theorem greatGo_at {O : List (List Int)} {k : Nat} {L : List Int} {m : Nat} (h : O[k]? = some L) : greatGo (O.drop k) m = ((decide (300 < L.length) || decide (5000 < m + L.length)) || greatGo (O.drop (k + 1)) (m + L.length)) := by
  have hk := (List.getElem?_eq_some_iff.1 h).1
  rw [List.drop_eq_getElem_cons hk, (List.getElem?_eq_some_iff.1 h).2]
  rfl
set_option maxRecDepth 100000 in
set_option maxHeartbeats 2000000 in
theorem great_at (lo hi : Int) (A : Option Addr) (c : Nat) (O : List (List Int)) (w : World) (hL : LiesR w A O) (hn : O.length ≤ 9223372036854775807) (hc : ∀ (j : Nat) (L : List Int), O[j]? = some L → L.length ≤ 9223372036854775807) :
    Calls Try.prog 18 #[shV lo hi A O.length c] w fun e w' => e = .returned (.bool (greatC O)) ∧ Below w.heap.size w w' := by
  obtain ⟨W, hW, g0, g1, g2, hbW, hsW⟩ := box28 w lo hi A O.length c
  unfold shV
  obtain ⟨q, hq⟩ : ∃ q, greatC O = q := ⟨_, rfl⟩
  rw [hq]
  have HQ := Lib.hid hq
  unfold greatC at HQ
  have HL := Lib.hid (hL.below hbW (Nat.le_refl _))
  have HB := Lib.hid hbW
  have HN := Lib.hid hn
  have HC := Lib.hid hc
  clear hL hn hc hq hbW hsW
  go_enter Try.func18, Try.ntmps18
  go_wp2
  go_loop [3, 4] (fun x i => ∃ k m : Nat, x = .int .i64 (m : Int) ∧ i = .int .i64 (k : Int) ∧ k ≤ O.length ∧ m ≤ 5000 ∧ (greatGo (O.drop k) m || decide (300 < O.length)) = q) (fun _ i => O.length - (intOf i).toNat)
  case atStart => exact ⟨0, 0, rfl, rfl, by omega, by omega, HQ.out⟩
  case round =>
    obtain ⟨k, m, rfl, rfl, hk, hm, hr⟩ := hrel
    by_cases hlt : k < O.length
    · obtain ⟨x, hx⟩ : ∃ p, O[k]? = some p := ⟨O[k], List.getElem?_eq_getElem _⟩
      obtain ⟨b, o, A', c', rfl, _, hcell, _, _, _⟩ := liesR1 HL.out hx
      have i1 : (k : Int) < (O.length : Int) := by omega
      have i2 : (k : Int) < 9223372036854775807 := by have := HN.out; omega
      have HK := Lib.hid hlt
      rw [greatGo_at hx] at hr
      have hxl := HC.out k x hx
      obtain ⟨n, hn⟩ : ∃ n, x.length = n := ⟨_, rfl⟩
      rw [hn] at hcell hr hxl
      by_cases h300 : 300 < n
      · rw [decide_eq_true h300, Bool.true_or, Bool.true_or, Bool.true_or] at hr
        have hr : q = true := hr.symm
        subst hr
        have j1 : decide ((n : Int) > 300) = true := decide_eq_true (by omega)
        have j2 : decide (300 < n) = true := decide_eq_true h300
        have i3 : (m : Int) ≤ 5000 := by omega
        clear hx hk hlt hn h300 hm
        go_wp2
        go_ret
        exact ⟨rfl, HB.out⟩
      · rw [decide_eq_false h300, Bool.false_or] at hr
        have j1 : decide ((n : Int) > 300) = false := decide_eq_false (by omega)
        have j2 : decide (300 < n) = false := decide_eq_false h300
        have i3 : (m : Int) ≤ 5000 := by omega
        have i4 : (n : Int) ≤ 300 := by omega
        by_cases h5 : 5000 < m + n
        · rw [decide_eq_true h5, Bool.true_or, Bool.true_or] at hr
          have hr : q = true := hr.symm
          subst hr
          have j3 : decide ((m : Int) + (n : Int) > 5000) = true := decide_eq_true (by omega)
          have j4 : decide (5000 < m + n) = true := decide_eq_true h5
          clear hx hk hlt hn h300 hm h5
          go_wp2
          go_ret
          exact ⟨rfl, HB.out⟩
        · rw [decide_eq_false h5, Bool.false_or] at hr
          have HR := Lib.hid hr
          have H5 := Lib.hid h5
          have j3 : decide ((m : Int) + (n : Int) > 5000) = false := decide_eq_false (by omega)
          have j4 : decide (5000 < m + n) = false := decide_eq_false h5
          clear hx hk hlt hn h300 hm h5 hr hxl
          go_wp2
          go_round
          case rel => exact ⟨k + 1, m + n, by go_num, by go_num, HK.out, by have := H5.out; omega, HR.out⟩
          case measure => have := HK.out; simp [intOf]; omega
    · obtain rfl : k = O.length := by omega
      rw [List.drop_length] at hr
      have hr : decide (300 < O.length) = q := hr
      by_cases hbig : 300 < O.length
      · rw [decide_eq_true hbig] at hr
        subst hr
        have j3 : decide ((O.length : Int) > 300) = true := decide_eq_true (by omega)
        have j4 : decide (300 < O.length) = true := decide_eq_true hbig
        clear hk hlt hm hbig
        go_wp2
        go_ret
        exact ⟨rfl, HB.out⟩
      · rw [decide_eq_false hbig] at hr
        subst hr
        have j3 : decide ((O.length : Int) > 300) = false := decide_eq_false (by omega)
        have j4 : decide (300 < O.length) = false := decide_eq_false hbig
        clear hk hlt hm hbig
        go_wp2
        go_ret
        exact ⟨rfl, HB.out⟩
theorem lies_one (V : World) (plo : Int) : Lies enc2 2 (V.alloc (.cells #[.int .i64 plo, .int .i64 1] 41)) (some ⟨V.heap.size, 0, none⟩) [(plo, 1)] := fun j x hx => by
  have g := heap_alloc_new V (.cells #[.int .i64 plo, .int .i64 1] 41)
  refine ⟨V.heap.size, 0, rfl, by simp, fun i u hu => ?_⟩
  have hj := (List.getElem?_eq_some_iff.1 hx).1
  simp at hj
  subst hj
  cases hx
  have hi := (List.getElem?_eq_some_iff.1 hu).1
  simp at hi
  refine cell_of_heap g ?_
  match i, hi, hu with
  | 0, _, hu => exact hu
  | 1, _, hu => exact hu
theorem may_no {lo hi : Int} (h : lo < 0 ∨ hi ≤ lo ∨ 256 < hi) : mayC lo hi = false := by
  cases hm : mayC lo hi
  · rfl
  · have := mayC_in hm
    omega
set_option maxRecDepth 100000 in
set_option maxHeartbeats 8000000 in
theorem none_at (plo phi lo hi : Int) (A : Option Addr) (c : Nat) (O : List (List Int)) (w : World) (hL : LiesR w A O) (hn : O.length ≤ 9223372036854775807) (hc : ∀ (j : Nat) (L : List Int), O[j]? = some L → L.length ≤ 9223372036854775807) :
    Calls Try.prog 5 #[partV plo phi, shV lo hi A O.length c] w fun e w' => e = .returned (.bool true) ∧ Below w.heap.size w w' := by
  unfold shV partV
  obtain ⟨W1, hW1, gW1, bW1, sW1⟩ := box_new w (.cells #[.int .i64 plo, .int .i64 phi] 24 (0, 0))
  obtain ⟨W0, hW0, gW0, bW0, sW0⟩ := box_new W1 (.cells #[.int .i64 lo, .int .i64 hi, .slice A O.length c] 28 (0, 0))
  obtain ⟨Sb, hSb⟩ : ∃ S, W1.heap.size = S := ⟨_, rfl⟩
  rw [hSb] at gW0
  have HB0 := Lib.hid (show Below w.heap.size w W0 from bW1.trans (bW0.mono bW1.size))
  have HP := Lib.hid (fun V (h : Below W0.heap.size W0 V) => (Fr.of_below h).keep (show Box2 W0 w.heap.size plo phi from (Fr.of_below bW0).keep gW1 (fun e => e)) (fun e => e))
  have HG := Lib.hid (fun V (h : Below W0.heap.size W0 V) => (Fr.of_below h).keep (show Box3 W0 Sb lo hi (.slice A O.length c) from gW0) (fun e => e))
  have HL := Lib.hid (fun V (h : Below W0.heap.size W0 V) => (hL.below HB0.out (Nat.le_refl _)).below h (Nat.le_refl _))
  have HGR := Lib.hid (great_at lo hi A c O W0 (HL.out W0 (Below.refl _ _)) hn hc)
  unfold shV at HGR
  have p0 := cell_of_heap (i := 0) (v := .int .i64 plo) (HP.out W0 (Below.refl _ _)) rfl
  have p1 := cell_of_heap (i := 1) (v := .int .i64 phi) (HP.out W0 (Below.refl _ _)) rfl
  obtain ⟨q0, q1, q2, _, _, _⟩ := Box3.cells (HG.out W0 (Below.refl _ _))
  cases hgreat : greatC O with
  | true =>
    rw [hgreat] at HGR
    clear hL hn hc hgreat gW1 bW1 sW1 gW0 bW0 sW0
    go_enter Try.func5, Try.ntmps5
    go_wp2_with (go_at_call 18; refine (HGR.out).mono ?_; rintro e w2 ⟨rfl, hb2⟩; have HB2 := Lib.hid (HB0.out.trans (hb2.mono HB0.out.size)); clear hb2)
    go_ret
    exact ⟨rfl, HB2.out⟩
  | false =>
    rw [hgreat] at HGR
    obtain ⟨n1, n2⟩ := great_false hgreat
    have HDOES := Lib.hid (fun V => does_at V)
    have HEN := Lib.hid (fun V h => encS_at lo hi A c O V h (by omega) (by omega))
    have HCH := Lib.hid (fun V h => checks_at lo hi A c O V h (by omega) (by omega))
    unfold shV at HEN HCH
    rw [encS_two] at HEN
    obtain ⟨FB, hFB⟩ : ∃ F, bytesB (Crc.sealL (bodyL lo hi O)) = F := ⟨_, rfl⟩
    have HFB := Lib.hid (show (FB.toList == []) = false from by
      rw [← hFB, ByteArray.toList_eq, beq_eq_false_iff_ne]
      intro e
      have := congrArg List.length e
      simp [Crc.sealL, Crc.sum4, Crc.le4] at this)
    have HZ2 := Lib.hid (show (checkC lo hi O = 0 ∧ bytesB (encS lo hi O).1 = FB) ∨ (checkC lo hi O = 2 ∧ bytesB (encS lo hi O).1 = ⟨#[]⟩) from by
      by_cases h0 : checkC lo hi O = 0
      · exact .inl ⟨h0, by unfold encS; rw [if_pos h0]; exact hFB⟩
      · exact .inr ⟨checkC_two h0, by unfold encS; rw [if_neg h0]⟩)
    have HSM := Lib.hid (fun A c V => same_at 0 0 A c [] 0 0 none 0 [] V (fun j L hL => by simp at hL) (fun j L hL => by simp at hL) (by decide) (by decide) (by decide) (by decide))
    rw [show sameC 0 0 [] 0 0 [] = true from by decide] at HSM
    unfold shV at HSM
    simp only [List.length_nil] at HSM
    clear hL hn hc hgreat gW1 bW1 sW1 gW0 bW0 sW0 n1 n2 hFB
    by_cases k0 : plo < 0
    · have HPM := Lib.hid (may_no (lo := plo) (hi := phi) (.inl k0))
      have j0 : decide (plo < 0) = true := decide_eq_true k0
      clear k0
      have HMK := Lib.hid (fun V (h : Below W0.heap.size W0 V) => make_at (some ⟨V.heap.size, 0, none⟩) 1 [(plo, 1)] plo phi (V.alloc (.cells #[.int .i64 plo, .int .i64 1] 41)) (lies_one V plo) (by simp))
      rw [show mkS plo phi [(plo, 1)] = (0, 0, []) from by unfold mkS; rw [HPM.out]; rfl] at HMK
      unfold shV partV at HMK
      simp only [List.length_nil, List.length_singleton] at HMK
      go_enter Try.func5, Try.ntmps5
      go_upto_region 6 with (first | (go_at_call 18; refine (HGR.out).mono ?_; rintro e w2 ⟨rfl, hb2⟩; have HB2 := Lib.hid hb2; have g2 := HG.out w2 hb2; obtain ⟨q20, q21, q22, _, _, _⟩ := Box3.cells g2; have p2 := HP.out w2 hb2; have p20 := cell_of_heap (i := 0) (v := .int .i64 plo) p2 rfl; have p21 := cell_of_heap (i := 1) (v := .int .i64 phi) p2 rfl; have p30 := (Fr.alloc w2 (.cells #[.int .i64 plo, .int .i64 1] 41)).cell p20 (lt_of_heap p2) (fun e => e); have p31 := (Fr.alloc w2 (.cells #[.int .i64 plo, .int .i64 1] 41)).cell p21 (lt_of_heap p2) (fun e => e); clear hb2 g2 p2) | (go_at_call 11; refine (HMK.out _ HB2.out).mono ?_; rintro e w3 ⟨A3, c3, rfl, _, _, hb3⟩; have HB3 := Lib.hid (HB2.out.trans (((Below.refl _ w2).alloc (Nat.le_refl _) (.cells #[.int .i64 plo, .int .i64 1] 41)).trans (hb3.mono (by simp)) |>.mono HB2.out.size)); clear hb3) | (go_at_call 10; refine (HSM.out _ _ _).mono ?_; rintro e w4 ⟨rfl, hb4⟩; have HB4 := Lib.hid (HB3.out.trans (hb4.mono HB3.out.size)); clear hb4))
      have HB6 := Lib.hid (HB4.out)
      have HL6 := Lib.hid (HL.out w4 HB6.out)
      have HG6 := Lib.hid (HG.out w4 HB6.out)
      clear q0 q1 q2 p0 p1
      obtain ⟨q0, q1, q2, _, _, _⟩ := Box3.cells HG6.out
      rcases HZ2.out with ⟨hz, hz2⟩ | ⟨hz, hz2⟩
      · rw [hz] at HCH HEN
        rw [hz2] at HEN
        have jb : (FB.toList == []) = false := HFB.out
        clear hz hz2
        go_upto_region 7 with (go_at_call 16; refine (HEN.out _ HL6.out).mono ?_; rintro e w7 ⟨rfl, hb7⟩; have HB7 := Lib.hid (HB6.out.trans (hb7.mono HB6.out.size)); have HL7 := Lib.hid (HL.out w7 HB7.out); have g7 := HG.out w7 HB7.out; obtain ⟨q70, q71, q72, _, _, _⟩ := Box3.cells g7; clear hb7 g7)
        clear q0 q1 q2
        go_wp2_with (first | (go_at_call 17; refine (HCH.out _ HL7.out).mono ?_; rintro e w8 ⟨rfl, hb8⟩; have HB8 := Lib.hid (HB7.out.trans (hb8.mono HB7.out.size)); clear hb8) | (go_at_call 14; refine (HDOES.out _).mono ?_; rintro e w9 ⟨rfl, hb9⟩; have HB9 := Lib.hid (HB8.out.trans (hb9.mono HB8.out.size)); clear hb9))
        go_ret
        exact ⟨rfl, HB0.out.trans (HB9.out.mono HB0.out.size)⟩
      · rw [hz] at HCH HEN
        rw [hz2] at HEN
        clear hz hz2
        go_upto_region 7 with (go_at_call 16; refine (HEN.out _ HL6.out).mono ?_; rintro e w7 ⟨rfl, hb7⟩; have HB7 := Lib.hid (HB6.out.trans (hb7.mono HB6.out.size)); have HL7 := Lib.hid (HL.out w7 HB7.out); have g7 := HG.out w7 HB7.out; obtain ⟨q70, q71, q72, _, _, _⟩ := Box3.cells g7; clear hb7 g7)
        clear q0 q1 q2
        go_wp2_with (first | (go_at_call 17; refine (HCH.out _ HL7.out).mono ?_; rintro e w8 ⟨rfl, hb8⟩; have HB8 := Lib.hid (HB7.out.trans (hb8.mono HB7.out.size)); clear hb8) | (go_at_call 14; refine (HDOES.out _).mono ?_; rintro e w9 ⟨rfl, hb9⟩; have HB9 := Lib.hid (HB8.out.trans (hb9.mono HB8.out.size)); clear hb9))
        go_ret
        exact ⟨rfl, HB0.out.trans (HB9.out.mono HB0.out.size)⟩
    · have j0 : decide (plo < 0) = false := decide_eq_false k0
      by_cases k1 : phi ≤ plo
      · have HPM := Lib.hid (may_no (lo := plo) (hi := phi) (.inr (.inl k1)))
        have j1 : decide (phi ≤ plo) = true := decide_eq_true k1
        clear k0 k1
        have HMK := Lib.hid (fun V (h : Below W0.heap.size W0 V) => make_at (some ⟨V.heap.size, 0, none⟩) 1 [(plo, 1)] plo phi (V.alloc (.cells #[.int .i64 plo, .int .i64 1] 41)) (lies_one V plo) (by simp))
        rw [show mkS plo phi [(plo, 1)] = (0, 0, []) from by unfold mkS; rw [HPM.out]; rfl] at HMK
        unfold shV partV at HMK
        simp only [List.length_nil, List.length_singleton] at HMK
        go_enter Try.func5, Try.ntmps5
        go_upto_region 6 with (first | (go_at_call 18; refine (HGR.out).mono ?_; rintro e w2 ⟨rfl, hb2⟩; have HB2 := Lib.hid hb2; have g2 := HG.out w2 hb2; obtain ⟨q20, q21, q22, _, _, _⟩ := Box3.cells g2; have p2 := HP.out w2 hb2; have p20 := cell_of_heap (i := 0) (v := .int .i64 plo) p2 rfl; have p21 := cell_of_heap (i := 1) (v := .int .i64 phi) p2 rfl; have p30 := (Fr.alloc w2 (.cells #[.int .i64 plo, .int .i64 1] 41)).cell p20 (lt_of_heap p2) (fun e => e); have p31 := (Fr.alloc w2 (.cells #[.int .i64 plo, .int .i64 1] 41)).cell p21 (lt_of_heap p2) (fun e => e); clear hb2 g2 p2) | (go_at_call 11; refine (HMK.out _ HB2.out).mono ?_; rintro e w3 ⟨A3, c3, rfl, _, _, hb3⟩; have HB3 := Lib.hid (HB2.out.trans (((Below.refl _ w2).alloc (Nat.le_refl _) (.cells #[.int .i64 plo, .int .i64 1] 41)).trans (hb3.mono (by simp)) |>.mono HB2.out.size)); clear hb3) | (go_at_call 10; refine (HSM.out _ _ _).mono ?_; rintro e w4 ⟨rfl, hb4⟩; have HB4 := Lib.hid (HB3.out.trans (hb4.mono HB3.out.size)); clear hb4))
        have HB6 := Lib.hid (HB4.out)
        have HL6 := Lib.hid (HL.out w4 HB6.out)
        have HG6 := Lib.hid (HG.out w4 HB6.out)
        clear q0 q1 q2 p0 p1
        obtain ⟨q0, q1, q2, _, _, _⟩ := Box3.cells HG6.out
        rcases HZ2.out with ⟨hz, hz2⟩ | ⟨hz, hz2⟩
        · rw [hz] at HCH HEN
          rw [hz2] at HEN
          have jb : (FB.toList == []) = false := HFB.out
          clear hz hz2
          go_upto_region 7 with (go_at_call 16; refine (HEN.out _ HL6.out).mono ?_; rintro e w7 ⟨rfl, hb7⟩; have HB7 := Lib.hid (HB6.out.trans (hb7.mono HB6.out.size)); have HL7 := Lib.hid (HL.out w7 HB7.out); have g7 := HG.out w7 HB7.out; obtain ⟨q70, q71, q72, _, _, _⟩ := Box3.cells g7; clear hb7 g7)
          clear q0 q1 q2
          go_wp2_with (first | (go_at_call 17; refine (HCH.out _ HL7.out).mono ?_; rintro e w8 ⟨rfl, hb8⟩; have HB8 := Lib.hid (HB7.out.trans (hb8.mono HB7.out.size)); clear hb8) | (go_at_call 14; refine (HDOES.out _).mono ?_; rintro e w9 ⟨rfl, hb9⟩; have HB9 := Lib.hid (HB8.out.trans (hb9.mono HB8.out.size)); clear hb9))
          go_ret
          exact ⟨rfl, HB0.out.trans (HB9.out.mono HB0.out.size)⟩
        · rw [hz] at HCH HEN
          rw [hz2] at HEN
          clear hz hz2
          go_upto_region 7 with (go_at_call 16; refine (HEN.out _ HL6.out).mono ?_; rintro e w7 ⟨rfl, hb7⟩; have HB7 := Lib.hid (HB6.out.trans (hb7.mono HB6.out.size)); have HL7 := Lib.hid (HL.out w7 HB7.out); have g7 := HG.out w7 HB7.out; obtain ⟨q70, q71, q72, _, _, _⟩ := Box3.cells g7; clear hb7 g7)
          clear q0 q1 q2
          go_wp2_with (first | (go_at_call 17; refine (HCH.out _ HL7.out).mono ?_; rintro e w8 ⟨rfl, hb8⟩; have HB8 := Lib.hid (HB7.out.trans (hb8.mono HB7.out.size)); clear hb8) | (go_at_call 14; refine (HDOES.out _).mono ?_; rintro e w9 ⟨rfl, hb9⟩; have HB9 := Lib.hid (HB8.out.trans (hb9.mono HB8.out.size)); clear hb9))
          go_ret
          exact ⟨rfl, HB0.out.trans (HB9.out.mono HB0.out.size)⟩
      · have j1 : decide (phi ≤ plo) = false := decide_eq_false k1
        by_cases k2 : 256 < phi
        · have HPM := Lib.hid (may_no (lo := plo) (hi := phi) (.inr (.inr k2)))
          have j2 : decide (phi > 256) = true := decide_eq_true k2
          clear k0 k1 k2
          have HMK := Lib.hid (fun V (h : Below W0.heap.size W0 V) => make_at (some ⟨V.heap.size, 0, none⟩) 1 [(plo, 1)] plo phi (V.alloc (.cells #[.int .i64 plo, .int .i64 1] 41)) (lies_one V plo) (by simp))
          rw [show mkS plo phi [(plo, 1)] = (0, 0, []) from by unfold mkS; rw [HPM.out]; rfl] at HMK
          unfold shV partV at HMK
          simp only [List.length_nil, List.length_singleton] at HMK
          go_enter Try.func5, Try.ntmps5
          go_upto_region 6 with (first | (go_at_call 18; refine (HGR.out).mono ?_; rintro e w2 ⟨rfl, hb2⟩; have HB2 := Lib.hid hb2; have g2 := HG.out w2 hb2; obtain ⟨q20, q21, q22, _, _, _⟩ := Box3.cells g2; have p2 := HP.out w2 hb2; have p20 := cell_of_heap (i := 0) (v := .int .i64 plo) p2 rfl; have p21 := cell_of_heap (i := 1) (v := .int .i64 phi) p2 rfl; have p30 := (Fr.alloc w2 (.cells #[.int .i64 plo, .int .i64 1] 41)).cell p20 (lt_of_heap p2) (fun e => e); have p31 := (Fr.alloc w2 (.cells #[.int .i64 plo, .int .i64 1] 41)).cell p21 (lt_of_heap p2) (fun e => e); clear hb2 g2 p2) | (go_at_call 11; refine (HMK.out _ HB2.out).mono ?_; rintro e w3 ⟨A3, c3, rfl, _, _, hb3⟩; have HB3 := Lib.hid (HB2.out.trans (((Below.refl _ w2).alloc (Nat.le_refl _) (.cells #[.int .i64 plo, .int .i64 1] 41)).trans (hb3.mono (by simp)) |>.mono HB2.out.size)); clear hb3) | (go_at_call 10; refine (HSM.out _ _ _).mono ?_; rintro e w4 ⟨rfl, hb4⟩; have HB4 := Lib.hid (HB3.out.trans (hb4.mono HB3.out.size)); clear hb4))
          have HB6 := Lib.hid (HB4.out)
          have HL6 := Lib.hid (HL.out w4 HB6.out)
          have HG6 := Lib.hid (HG.out w4 HB6.out)
          clear q0 q1 q2 p0 p1
          obtain ⟨q0, q1, q2, _, _, _⟩ := Box3.cells HG6.out
          rcases HZ2.out with ⟨hz, hz2⟩ | ⟨hz, hz2⟩
          · rw [hz] at HCH HEN
            rw [hz2] at HEN
            have jb : (FB.toList == []) = false := HFB.out
            clear hz hz2
            go_upto_region 7 with (go_at_call 16; refine (HEN.out _ HL6.out).mono ?_; rintro e w7 ⟨rfl, hb7⟩; have HB7 := Lib.hid (HB6.out.trans (hb7.mono HB6.out.size)); have HL7 := Lib.hid (HL.out w7 HB7.out); have g7 := HG.out w7 HB7.out; obtain ⟨q70, q71, q72, _, _, _⟩ := Box3.cells g7; clear hb7 g7)
            clear q0 q1 q2
            go_wp2_with (first | (go_at_call 17; refine (HCH.out _ HL7.out).mono ?_; rintro e w8 ⟨rfl, hb8⟩; have HB8 := Lib.hid (HB7.out.trans (hb8.mono HB7.out.size)); clear hb8) | (go_at_call 14; refine (HDOES.out _).mono ?_; rintro e w9 ⟨rfl, hb9⟩; have HB9 := Lib.hid (HB8.out.trans (hb9.mono HB8.out.size)); clear hb9))
            go_ret
            exact ⟨rfl, HB0.out.trans (HB9.out.mono HB0.out.size)⟩
          · rw [hz] at HCH HEN
            rw [hz2] at HEN
            clear hz hz2
            go_upto_region 7 with (go_at_call 16; refine (HEN.out _ HL6.out).mono ?_; rintro e w7 ⟨rfl, hb7⟩; have HB7 := Lib.hid (HB6.out.trans (hb7.mono HB6.out.size)); have HL7 := Lib.hid (HL.out w7 HB7.out); have g7 := HG.out w7 HB7.out; obtain ⟨q70, q71, q72, _, _, _⟩ := Box3.cells g7; clear hb7 g7)
            clear q0 q1 q2
            go_wp2_with (first | (go_at_call 17; refine (HCH.out _ HL7.out).mono ?_; rintro e w8 ⟨rfl, hb8⟩; have HB8 := Lib.hid (HB7.out.trans (hb8.mono HB7.out.size)); clear hb8) | (go_at_call 14; refine (HDOES.out _).mono ?_; rintro e w9 ⟨rfl, hb9⟩; have HB9 := Lib.hid (HB8.out.trans (hb9.mono HB8.out.size)); clear hb9))
            go_ret
            exact ⟨rfl, HB0.out.trans (HB9.out.mono HB0.out.size)⟩
        · have j2 : decide (phi > 256) = false := decide_eq_false k2
          clear k0 k1 k2
          go_enter Try.func5, Try.ntmps5
          go_upto_region 6 with (go_at_call 18; refine (HGR.out).mono ?_; rintro e w2 ⟨rfl, hb2⟩; have HB2 := Lib.hid hb2; have g2 := HG.out w2 hb2; obtain ⟨q20, q21, q22, _, _, _⟩ := Box3.cells g2; have p2 := HP.out w2 hb2; have p20 := cell_of_heap (i := 0) (v := .int .i64 plo) p2 rfl; have p21 := cell_of_heap (i := 1) (v := .int .i64 phi) p2 rfl; clear hb2 g2 p2)
          have HB6 := Lib.hid (HB2.out)
          have HL6 := Lib.hid (HL.out w2 HB6.out)
          have HG6 := Lib.hid (HG.out w2 HB6.out)
          clear q0 q1 q2 p0 p1
          obtain ⟨q0, q1, q2, _, _, _⟩ := Box3.cells HG6.out
          rcases HZ2.out with ⟨hz, hz2⟩ | ⟨hz, hz2⟩
          · rw [hz] at HCH HEN
            rw [hz2] at HEN
            have jb : (FB.toList == []) = false := HFB.out
            clear hz hz2
            go_upto_region 7 with (go_at_call 16; refine (HEN.out _ HL6.out).mono ?_; rintro e w7 ⟨rfl, hb7⟩; have HB7 := Lib.hid (HB6.out.trans (hb7.mono HB6.out.size)); have HL7 := Lib.hid (HL.out w7 HB7.out); have g7 := HG.out w7 HB7.out; obtain ⟨q70, q71, q72, _, _, _⟩ := Box3.cells g7; clear hb7 g7)
            clear q0 q1 q2
            go_wp2_with (first | (go_at_call 17; refine (HCH.out _ HL7.out).mono ?_; rintro e w8 ⟨rfl, hb8⟩; have HB8 := Lib.hid (HB7.out.trans (hb8.mono HB7.out.size)); clear hb8) | (go_at_call 14; refine (HDOES.out _).mono ?_; rintro e w9 ⟨rfl, hb9⟩; have HB9 := Lib.hid (HB8.out.trans (hb9.mono HB8.out.size)); clear hb9))
            go_ret
            exact ⟨rfl, HB0.out.trans (HB9.out.mono HB0.out.size)⟩
          · rw [hz] at HCH HEN
            rw [hz2] at HEN
            clear hz hz2
            go_upto_region 7 with (go_at_call 16; refine (HEN.out _ HL6.out).mono ?_; rintro e w7 ⟨rfl, hb7⟩; have HB7 := Lib.hid (HB6.out.trans (hb7.mono HB6.out.size)); have HL7 := Lib.hid (HL.out w7 HB7.out); have g7 := HG.out w7 HB7.out; obtain ⟨q70, q71, q72, _, _, _⟩ := Box3.cells g7; clear hb7 g7)
            clear q0 q1 q2
            go_wp2_with (first | (go_at_call 17; refine (HCH.out _ HL7.out).mono ?_; rintro e w8 ⟨rfl, hb8⟩; have HB8 := Lib.hid (HB7.out.trans (hb8.mono HB7.out.size)); clear hb8) | (go_at_call 14; refine (HDOES.out _).mono ?_; rintro e w9 ⟨rfl, hb9⟩; have HB9 := Lib.hid (HB8.out.trans (hb9.mono HB8.out.size)); clear hb9))
            go_ret
            exact ⟨rfl, HB0.out.trans (HB9.out.mono HB0.out.size)⟩
end Go.Proofs.Ytdlmkdldmiiaiaa.E
