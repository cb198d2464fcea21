/- FilesKeep, walked. Conditions: the arguments are of their kinds. -/
import Derived.Test.YtnpdnnaemfdinaaRma
namespace Go.Proofs.Ytnpdnnaemfdinaa.F
open Go.RowKit Go.Maps Go.Sort Go.Shelf
open Go.Proofs.Ytnpdnnaemfdinaa.Ma
set_option linter.unusedVariables false
set_option linter.unusedSimpArgs false
/-- all, of a file system all of whose pages but one file's are O. -/
theorem all_o {X : Nat → Prop} {w : World} {b bm : Nat} {room left : Int} {D : List De} {but : ByteArray} {O : List ByteArray} (hO : allF D but = O) (h : FsX X w b bm room left D) :
    Calls Try.prog 33 #[.pointer (some ⟨b, 0, none⟩), .string but] w fun e w' => ∃ A c left', e = .returned (.slice A O.length c) ∧ Told w w' w' A O ∧ 1099511623680 ≤ left' ∧ left' ≤ 1099511627776 ∧ FsX (Xw X w w') w' b bm room left' D ∧ Fr (fun k => ¬ X k) w w' := by
  subst hO
  refine (all_at but h).mono ?_
  rintro e w' ⟨A, c, rfl, hr, ⟨l, h1, h2, h3⟩, hf⟩
  exact ⟨A, c, l, rfl, told_row (by rw [cellsS]; exact hr), h1, h2, h3, hf⟩
theorem write_says {room : Int} {D : List De} {s : ByteArray} {P : List ByteArray} {r : Int} {D' : List De} (h : writeF room D s P = (r, D')) : (r = 2 ∧ D' = D) ∨ (r = 61 ∧ D' = D) ∨ (r = 0 ∧ D' = setD s P D) := by
  rcases write_cases room D s P with e | e | ⟨e, _⟩ <;> rw [e] at h <;> cases h
  · exact .inl ⟨rfl, rfl⟩
  · exact .inr (.inl ⟨rfl, rfl⟩)
  · exact .inr (.inr ⟨rfl, rfl⟩)
theorem read_in {D : List De} {s : ByteArray} {P : List ByteArray} {t : Nat} {x : ByteArray} {left : Int} (hP : lookD D s = P) (hx : P[t]? = some x) (hl : 0 < left) : readD left D s t = (x, 0, left - 1) := by
  have ht := (List.getElem?_eq_some_iff.1 hx).1
  have e : thereD D s t = 0 := by unfold thereD; rw [hP, if_pos ⟨by omega, by omega⟩]
  unfold readD
  rw [if_neg (by rw [e]; decide), if_neg (by omega), if_neg (by omega), hP, Int.toNat_natCast]
  simp [List.getD, hx]
theorem read_out {D : List De} {s : ByteArray} {P : List ByteArray} {left : Int} (hP : lookD D s = P) : readD left D s P.length = (⟨#[]⟩, 4, left) := by
  have e : thereD D s P.length = 4 := by unfold thereD; rw [hP, if_neg (by omega)]
  unfold readD
  rw [if_pos e]
theorem remove_says {D : List De} {s : ByteArray} {r : Int} {D' : List De} (h : removeF D s = (r, D')) : (r = 0 ∧ 0 < (lookD D s).length) ∨ (r = 4 ∧ (lookD D s).length = 0) := by
  unfold removeF at h
  split at h <;> rename_i h0 <;> cases h
  · exact .inr ⟨rfl, by rw [h0]; rfl⟩
  · exact .inl ⟨rfl, List.length_pos_iff.2 h0⟩
set_option maxRecDepth 100000 in
set_option maxHeartbeats 8000000 in
theorem keep_law (A : Option Addr) (c : Nat) (L : List Ac) (s : ByteArray) (A0 A1 : Option Addr) (c0 c1 : Nat) (P0 P1 : List ByteArray) (w : World) (h : Lies encA 6 w A L) (hlen : L.length ≤ maxLen) (hA : ∀ a ∈ L, AcAt w a) (hs : s.size ≤ maxLen)
    (hP0 : Lies encS 1 w A0 P0) (hl0 : P0.length ≤ maxLen) (hP1 : Lies encS 1 w A1 P1) (hl1 : P1.length ≤ maxLen) :
    Calls Try.prog 7 #[.slice A L.length c, .string s, .agg #[.slice A0 P0.length c0, .slice A1 P1.length c1]] w fun e w' => e = .returned (.bool true) ∧ Below w.heap.size w w' := by
  obtain ⟨W, hW, gW, hbl, hsz⟩ := box_new w (.cells #[.slice A0 P0.length c0, .slice A1 P1.length c1] 57 (0, 0))
  have HG := Lib.hid (great_at A c L 60 W (h.below hbl (Nat.le_refl _)) hlen (fun a ha => (hA a ha).below hbl))
  have H := Lib.hid (h.below hbl (Nat.le_refl _))
  have HP0 := Lib.hid (hP0.below hbl (Nat.le_refl _))
  have HP1 := Lib.hid (hP1.below hbl (Nat.le_refl _))
  have HG0 := Lib.hid (great5_at A0 c0 P0 8 W HP0.out hl0)
  have HG1 := Lib.hid (great5_at A1 c1 P1 8 W HP1.out hl1)
  have g0 := cell_of_heap (i := 0) gW rfl
  have g1 := cell_of_heap (i := 1) gW rfl
  have HB0 := Lib.hid hbl
  have HS := Lib.hid hs
  have HZ := Lib.hid (show w.heap.size < W.heap.size by omega)
  have HCELL := Lib.hid (show ∀ k : Nat, k < 2 → ∃ A' c' P, W.cell? ⟨w.heap.size, k, none⟩ = some (.slice A' P.length c') ∧ Lies encS 1 W A' P ∧ (P = P0 ∨ P = P1) from fun k hk => by
    rcases (show k = 0 ∨ k = 1 by omega) with rfl | rfl
    · exact ⟨A0, c0, P0, g0, HP0.out, .inl rfl⟩
    · exact ⟨A1, c1, P1, g1, HP1.out, .inr rfl⟩)
  have HPL := Lib.hid (fun (hq : ∀ a ∈ L, AcOk W a) (hl : L.length ≤ 60) => played_at A c L W H.out hq (by omega))
  obtain ⟨n, hn⟩ : ∃ n, L.length = n := ⟨_, rfl⟩
  obtain ⟨n0, hn0⟩ : ∃ n, P0.length = n := ⟨_, rfl⟩
  obtain ⟨n1, hn1⟩ : ∃ n, P1.length = n := ⟨_, rfl⟩
  have HN := Lib.hid (And.intro hn (And.intro hn0 hn1))
  rw [hn] at HG HPL ⊢
  rw [hn0] at g0 HG0 hW ⊢
  rw [hn1] at g1 HG1 hW ⊢
  clear h hlen hA hP0 hP1 hl0 hl1 gW hbl hsz hs hn hn0 hn1
  by_cases h40 : (40 : Int) < (s.size : Int)
  · go_enter Try.func7, Try.ntmps7
    go_wp2_with (go_at_call 19; refine HG.out.mono ?_; rintro e w1 ⟨⟨q0, rfl, hq0⟩, rfl⟩; clear hq0; cases q0)
    all_goals
      go_ret
      exact ⟨rfl, HB0.out⟩
  · go_enter Try.func7, Try.ntmps7
    go_wp2_with (first
      | (go_at_call 19; refine HG.out.mono ?_; rintro e w1 ⟨⟨q0, rfl, hq0⟩, rfl⟩; have HQ := Lib.hid hq0; clear hq0; cases q0)
      | (go_at_call 31; have _ := HQ0; refine HG1.out.mono ?_; rintro e w1 ⟨⟨q0, rfl, hq0⟩, rfl⟩; have HQ1 := Lib.hid hq0; clear hq0; cases q0)
      | (go_at_call 31; refine HG0.out.mono ?_; rintro e w1 ⟨⟨q0, rfl, hq0⟩, rfl⟩; have HQ0 := Lib.hid hq0; clear hq0; cases q0)
      | (go_at_call 32; refine (HPL.out (HQ.out (by simp)).2 (HQ.out (by simp)).1).mono ?_; rintro e w2 ⟨b, bm, left, D, rfl, h2, hb2⟩; obtain ⟨O, hO⟩ : ∃ O, allF D s = O := ⟨_, rfl⟩; have HO := Lib.hid hO; have HOL := Lib.hid (show O.length ≤ 1000000 by rw [← hO]; have := all_len D s; have := h2.small; omega); have H2 := Lib.hid h2; have B2 := Lib.hid hb2; clear h2 hb2 hO)
      | (go_at_call 33; refine (all_o HO.out H2.out).mono ?_; rintro e w3 ⟨A2, c2, l3, rfl, hr, _, _, h3, hf3⟩; have H3 := Lib.hid h3; have F3 := Lib.hid hf3; have T3 := Lib.hid hr; clear hr h3 hf3))
    · go_loopw [9] (fun i wi => ∃ (k : Nat) (left : Int) (D : List De), k ≤ 2 ∧ i = .int .i64 k ∧ FsX (Xw (low W) w2 w3) wi b bm 60 left D ∧ allF D s = O ∧ Fr (fun k => ¬ Xw (low W) w2 w3 k) w3 wi) (fun i _ => 2 - (intOf i).toNat)
      case atStart => exact ⟨0, _, _, by omega, rfl, H3.out, HO.out, Fr.refl _ _⟩
      case round =>
        obtain ⟨k, left, D', hk, rfl, hx, hO, hfr⟩ := hrel
        obtain ⟨w0', hw0⟩ : ∃ V, V = wr := ⟨_, rfl⟩
        subst hw0
        have HX := Lib.hid hx
        have HO1 := Lib.hid hO
        have HFR := Lib.hid hfr
        have hfw : Fr (fun k => ¬ low W k) W w0' := (((Fr.of_below B2.out).mono (fun _ e => e.elim)).trans F3.out).trans (hfr.mono fun k hk hl => hk (.inl hl))
        have HFW := Lib.hid hfw
        have TW := Lib.hid (T3.out.fr hfr (fun k h1 h2 h3 => h3 (.inr ⟨h1, h2⟩)))
        by_cases hlt : k < 2
        · obtain ⟨A', c', P, hc, hP, hPP⟩ := HCELL.out k hlt
          have hm8 : P.length ≤ 8 := by
            rcases hPP with rfl | rfl
            · rw [HN.out.2.1]; exact (HQ0.out (by simp)).1
            · rw [HN.out.2.2]; exact (HQ1.out (by simp)).1
          have hcw := hfw.cell hc HZ.out (fun e => e HZ.out)
          have hPw := lies_frl hP hfw (fun k hk e => e hk)
          have HC := Lib.hid (x_write s HS.out A' c' P hPw (by omega) hx)
          have HPW := Lib.hid (fun (V : World) (hf : Fr (fun k => ¬ Xw (low W) w2 w3 k) w3 V) => show Lies encS 1 V A' P from lies_frl hP ((((Fr.of_below B2.out).mono (fun _ e => e.elim)).trans F3.out).trans (hf.mono fun k hk hl => hk (.inl hl))) (fun k hk e => e hk))
          obtain ⟨m, hm⟩ : ∃ m, P.length = m := ⟨_, rfl⟩
          have HM := Lib.hid hm
          rw [hm] at hcw HC hm8
          have HM8 := Lib.hid hm8
          obtain ⟨⟨r, D2⟩, hr⟩ : ∃ r, writeF 60 D' s P = r := ⟨_, rfl⟩
          rw [hr] at HC
          have hsay := write_says hr
          have i1 : (k : Int) < 2 := by omega
          clear hc hP hPP hx hO hfr hfw hPw hm hr
          rcases hsay with ⟨rfl, rfl⟩ | ⟨rfl, rfl⟩ | ⟨rfl, h2⟩
          · go_wp2_with (first
              | (go_at_call 23; refine (texts_at A5 A2 c5 c2 O w5 T5.out.lies TW5.out.lies HOL.out).mono ?_; rintro e w6 ⟨rfl, hb6⟩; have B6 := Lib.hid hb6; clear hb6)
              | (go_at_call 33; refine (all_o HO1.out H4.out).mono ?_; rintro e w5 ⟨A5, c5, l5, rfl, ht5, _, _, h5, hf5⟩; have T5 := Lib.hid ht5; have TW5 := Lib.hid ((TW.out.fr F4.out (fun k h1 h2 h3 => h3 (.inr ⟨h1, h2⟩))).fr hf5 (fun k h1 h2 h3 => h3 (.inr ⟨h1, h2⟩))); have H5 := Lib.hid h5; have F5 := Lib.hid hf5; clear ht5 h5 hf5)
              | (go_at_call 11; refine HC.out.mono ?_; rintro e w4 ⟨rfl, h4, hf4⟩; have H4 := Lib.hid h4; have F4 := Lib.hid hf4; clear h4 hf4))
            go_roundw
            case rel => exact ⟨k + 1, l5, D2, by omega, by go_num, (H5.out.narrow (fun k hk => .inl hk)).below B6.out, HO1.out, ((HFR.out.trans F4.out).trans F5.out).trans ((Fr.of_below B6.out).mono (fun _ e => e.elim))⟩
            case measure => simp [intOf]; omega
          · go_wp2_with (first
              | (go_at_call 23; refine (texts_at A5 A2 c5 c2 O w5 T5.out.lies TW5.out.lies HOL.out).mono ?_; rintro e w6 ⟨rfl, hb6⟩; have B6 := Lib.hid hb6; clear hb6)
              | (go_at_call 33; refine (all_o HO1.out H4.out).mono ?_; rintro e w5 ⟨A5, c5, l5, rfl, ht5, _, _, h5, hf5⟩; have T5 := Lib.hid ht5; have TW5 := Lib.hid ((TW.out.fr F4.out (fun k h1 h2 h3 => h3 (.inr ⟨h1, h2⟩))).fr hf5 (fun k h1 h2 h3 => h3 (.inr ⟨h1, h2⟩))); have H5 := Lib.hid h5; have F5 := Lib.hid hf5; clear ht5 h5 hf5)
              | (go_at_call 11; refine HC.out.mono ?_; rintro e w4 ⟨rfl, h4, hf4⟩; have H4 := Lib.hid h4; have F4 := Lib.hid hf4; clear h4 hf4))
            go_roundw
            case rel => exact ⟨k + 1, l5, D2, by omega, by go_num, (H5.out.narrow (fun k hk => .inl hk)).below B6.out, HO1.out, ((HFR.out.trans F4.out).trans F5.out).trans ((Fr.of_below B6.out).mono (fun _ e => e.elim))⟩
            case measure => simp [intOf]; omega
          · have HO2 := Lib.hid (show allF D2 s = O by rw [h2, all_set]; exact HO1.out)
            have HL2 := Lib.hid (show lookD D2 s = P by rw [h2, look_set])
            have HPG := Lib.hid (fun (X : Nat → Prop) (V : World) (l : Int) (h : FsX X V b bm 60 l D2) => by have := x_pages s HS.out h; rw [HL2.out, HM.out] at this; exact this)
            clear h2
            go_wp2_with (first
              | (go_at_call 23; refine (texts_at A5 A2 c5 c2 O w5 T5.out.lies TW5.out.lies HOL.out).mono ?_; rintro e w6 ⟨rfl, hb6⟩; have B6 := Lib.hid hb6; have H6 := Lib.hid ((H5.out.narrow (fun k hk => .inl hk)).below hb6); have F6 := Lib.hid (((HFR.out.trans F4.out).trans F5.out).trans ((Fr.of_below hb6).mono (fun _ e => e.elim))); clear hb6)
              | (go_at_call 33; refine (all_o HO2.out H4.out).mono ?_; rintro e w5 ⟨A5, c5, l5, rfl, ht5, hl5, hl6, h5, hf5⟩; have T5 := Lib.hid ht5; have TW5 := Lib.hid ((TW.out.fr F4.out (fun k h1 h2 h3 => h3 (.inr ⟨h1, h2⟩))).fr hf5 (fun k h1 h2 h3 => h3 (.inr ⟨h1, h2⟩))); have H5 := Lib.hid h5; have F5 := Lib.hid hf5; have HL5 := Lib.hid (And.intro hl5 hl6); clear ht5 h5 hf5 hl5 hl6)
              | (go_at_call 26; refine (HPG.out _ _ _ H4.out).mono ?_; rintro e w' ⟨rfl, rfl⟩)
              | (go_at_call 11; refine HC.out.mono ?_; rintro e w4 ⟨rfl, h4, hf4⟩; have H4 := Lib.hid h4; have F4 := Lib.hid hf4; clear h4 hf4))
            go_loopw [12] (fun i wi => ∃ (t : Nat) (l : Int), t ≤ m ∧ i = .int .i64 t ∧ FsX (Xw (low W) w2 w3) wi b bm 60 l D2 ∧ 1099511623680 - (t : Int) ≤ l ∧ Fr (fun k => ¬ Xw (low W) w2 w3 k) w3 wi) (fun i _ => m - (intOf i).toNat)
            case atStart => exact ⟨0, _, by omega, rfl, H6.out, by have := HL5.out.1; omega, F6.out⟩
            case round =>
              obtain ⟨t, l, ht, rfl, hx, hl, hfr⟩ := hrel
              have HX2 := Lib.hid hx
              have HL3 := Lib.hid hl
              have HFR2 := Lib.hid hfr
              by_cases htl : t < m
              · have hm8 := HM8.out
                have hxt : P[t]? = some (P[t]'(by have := HM.out; omega)) := List.getElem?_eq_getElem _
                obtain ⟨x, hxx⟩ : ∃ x, P[t]'(by have := HM.out; omega) = x := ⟨_, rfl⟩
                rw [hxx] at hxt
                have HRD := Lib.hid (c_read (read_in HL2.out hxt (by omega)) HS.out hx)
                obtain ⟨g, o, e, hg, _⟩ := lies_s (HPW.out wr hfr) hxt
                have HCX := Lib.hid (fun (V : World) (hf : Fr (fun k => ¬ Xw (low W) w2 w3 k) w3 V) => by obtain ⟨g', o', e', _, q⟩ := lies_s (HPW.out V hf) hxt; rw [e] at e'; cases e'; exact q)
                subst e
                have i2 : (t : Int) < (m : Int) := by omega
                have i3 : (t : Int) < 8 := by omega
                clear hx hl hfr hxt hxx hg hm8
                go_wp2_with (go_at_call 14; refine HRD.out.mono ?_; rintro e w7 ⟨rfl, h7, hf7⟩; have H7 := Lib.hid h7; have F7 := Lib.hid (HFR2.out.trans hf7); have qn := HCX.out w7 (HFR2.out.trans hf7); clear h7 hf7)
                go_roundw
                case rel => exact ⟨t + 1, l - 1, by omega, by go_num, H7.out, by have := HL3.out; omega, F7.out⟩
                case measure => simp [intOf]; omega
              · obtain rfl : t = m := by omega
                have HRD := Lib.hid (c_read (read_out HL2.out) HS.out hx)
                rw [HM.out] at HRD
                clear hx hl hfr
                go_wp2_with (go_at_call 14; refine HRD.out.mono ?_; rintro e w7 ⟨rfl, h7, hf7⟩; have H7 := Lib.hid h7; have F7 := Lib.hid (HFR2.out.trans hf7); clear h7 hf7)
                go_roundw
                case rel => exact ⟨k + 1, l, D2, by omega, by go_num, H7.out, HO2.out, F7.out⟩
                case measure => simp [intOf]; omega
        · obtain rfl : k = 2 := by omega
          obtain ⟨⟨r, D2⟩, hr⟩ : ∃ r, removeF D' s = r := ⟨_, rfl⟩
          have hrs := remove_says hr
          obtain ⟨u1, u2, u3⟩ := remove_all hx.some s
          rw [hr] at u1 u2 u3
          dsimp only at u1 u2 u3
          rw [hO] at u1 u3
          obtain ⟨u, hu⟩ : ∃ u, (lookD D' s).length = u := ⟨_, rfl⟩
          obtain ⟨v, hv⟩ : ∃ v, pagesD D2 = v := ⟨_, rfl⟩
          have HPG := Lib.hid (fun (X : Nat → Prop) (V : World) (l : Int) (h : FsX X V b bm 60 l D') => by have := x_pages s HS.out h; rw [hu] at this; exact this)
          have HPG2 := Lib.hid (fun (X : Nat → Prop) (V : World) (l : Int) (h : FsX X V b bm 60 l D2) => by have := x_pages s HS.out h; rw [u2] at this; exact this)
          have HUS := Lib.hid (fun (X : Nat → Prop) (V : World) (l : Int) (h : FsX X V b bm 60 l D2) => by have := x_used h; rw [hv] at this; exact this)
          have HRM := Lib.hid (x_remove s HS.out hx)
          rw [hr] at HRM
          rw [hu] at hrs
          rw [hv] at u3
          have HO2 := Lib.hid u1
          have hv4 : v ≤ 1000000 := by have := HOL.out; omega
          have j1 : IntKind.i64.wrap ((v : Int) * 2) = (v : Int) * 2 := IntWalk.i64_in _ ⟨by omega, by omega⟩
          have j2 : ((v : Int) * 2 == (O.length : Int)) = true := by simp; omega
          clear hx hO hfr hfw u1 u2 u3 hu hv hr hv4 hk hlt
          rcases hrs with ⟨rfl, hu⟩ | ⟨rfl, rfl⟩
          · have j3 : (0 : Int) < (u : Int) := by omega
            have j4 : decide (0 < u) = true := decide_eq_true hu
            clear hu
            go_wp2_with (first
              | (go_at_call 15; refine (does_at _).mono ?_; rintro e w8 ⟨rfl, hb8⟩; have B8 := Lib.hid (below_low (fr_low (w0 := w) HB0.out (F7.out.mono (fun k hk hl => hk (Nat.lt_trans hl HZ.out)))) hb8); clear hb8)
              | (go_at_call 18; refine (HUS.out _ _ _ H6.out).mono ?_; rintro e w7 ⟨rfl, hb7⟩; have F7 := Lib.hid (F6.out.trans ((Fr.of_below hb7).mono (fun _ e => e.elim))); clear hb7)
              | (go_at_call 23; refine (texts_at A5 A2 c5 c2 O w5 T5.out.lies TW5.out.lies HOL.out).mono ?_; rintro e w6 ⟨rfl, hb6⟩; have F6 := Lib.hid (F5.out.trans ((Fr.of_below hb6).mono (fun _ e => e.elim))); have H6 := Lib.hid (H5.out.below hb6); clear hb6)
              | (go_at_call 33; refine (all_o HO2.out H4.out).mono ?_; rintro e w5 ⟨A5, c5, l5, rfl, ht5, hl5, hl6, h5, hf5⟩; have T5 := Lib.hid ht5; have TW5 := Lib.hid ((TW.out.fr F4.out (fun k h1 h2 h3 => h3 (.inr ⟨h1, h2⟩))).fr hf5 (fun k h1 h2 h3 => h3 (.inr ⟨h1, h2⟩))); have H5 := Lib.hid h5; have F5 := Lib.hid ((HFW.out.trans (F4.out.mono fun k hk hl => hk (.inl hl))).trans (hf5.mono fun k hk hl => hk (.inl hl))); clear ht5 h5 hf5 hl5 hl6)
              | (go_at_call 26; refine (HPG2.out _ _ _ H4.out).mono ?_; rintro e w' ⟨rfl, rfl⟩)
              | (go_at_call 34; refine HRM.out.mono ?_; rintro e w4 ⟨rfl, h4, hf4⟩; have H4 := Lib.hid h4; have F4 := Lib.hid hf4; clear h4 hf4)
              | (go_at_call 26; refine (HPG.out _ _ _ HX.out).mono ?_; rintro e w' ⟨rfl, rfl⟩))
            go_ret
            exact ⟨rfl, B8.out⟩
          · go_wp2_with (first
              | (go_at_call 15; refine (does_at _).mono ?_; rintro e w8 ⟨rfl, hb8⟩; have B8 := Lib.hid (below_low (fr_low (w0 := w) HB0.out (F7.out.mono (fun k hk hl => hk (Nat.lt_trans hl HZ.out)))) hb8); clear hb8)
              | (go_at_call 18; refine (HUS.out _ _ _ H6.out).mono ?_; rintro e w7 ⟨rfl, hb7⟩; have F7 := Lib.hid (F6.out.trans ((Fr.of_below hb7).mono (fun _ e => e.elim))); clear hb7)
              | (go_at_call 23; refine (texts_at A5 A2 c5 c2 O w5 T5.out.lies TW5.out.lies HOL.out).mono ?_; rintro e w6 ⟨rfl, hb6⟩; have F6 := Lib.hid (F5.out.trans ((Fr.of_below hb6).mono (fun _ e => e.elim))); have H6 := Lib.hid (H5.out.below hb6); clear hb6)
              | (go_at_call 33; refine (all_o HO2.out H4.out).mono ?_; rintro e w5 ⟨A5, c5, l5, rfl, ht5, hl5, hl6, h5, hf5⟩; have T5 := Lib.hid ht5; have TW5 := Lib.hid ((TW.out.fr F4.out (fun k h1 h2 h3 => h3 (.inr ⟨h1, h2⟩))).fr hf5 (fun k h1 h2 h3 => h3 (.inr ⟨h1, h2⟩))); have H5 := Lib.hid h5; have F5 := Lib.hid ((HFW.out.trans (F4.out.mono fun k hk hl => hk (.inl hl))).trans (hf5.mono fun k hk hl => hk (.inl hl))); clear ht5 h5 hf5 hl5 hl6)
              | (go_at_call 26; refine (HPG2.out _ _ _ H4.out).mono ?_; rintro e w' ⟨rfl, rfl⟩)
              | (go_at_call 34; refine HRM.out.mono ?_; rintro e w4 ⟨rfl, h4, hf4⟩; have H4 := Lib.hid h4; have F4 := Lib.hid hf4; clear h4 hf4)
              | (go_at_call 26; refine (HPG.out _ _ _ HX.out).mono ?_; rintro e w' ⟨rfl, rfl⟩))
            go_ret
            exact ⟨rfl, B8.out⟩
    all_goals
      go_ret
      exact ⟨rfl, HB0.out⟩
end Go.Proofs.Ytnpdnnaemfdinaa.F
