/- The document's refusals. Conditions: those that each theorem names. -/
import Derived.Test.YtpmgkmodpneiiaaDrw
namespace Go.Proofs.Ytpmgkmodpneiiaa.E
open Go.RowKit Go.Sort Go.Shelf
open Go.Proofs.Ytpmgkmodpneiiaa.Ma
set_option linter.unusedVariables false
set_option linter.unusedSimpArgs false
set_option maxRecDepth 100000 in
set_option maxHeartbeats 1000000 in
theorem sameD_at (A B : Option Addr) (c d : Nat) (L M : List Ed) (w : World) (hL : Lies enc2 2 w A L) (hM : Lies enc2 2 w B M) (hl : L.length ≤ 500000) (hm : M.length ≤ 500000) :
    Calls Try.prog 36 #[.slice A L.length c, .slice B M.length d] w fun e w' => e = .returned (.bool (decide (L = M))) ∧ Below w.heap.size w w' := by
  obtain ⟨q, hq⟩ : ∃ q, decide (L = M) = q := ⟨_, rfl⟩
  rw [hq]
  have HQ := Lib.hid hq
  have HL := Lib.hid hL
  have HM := Lib.hid hM
  clear hq hL hM
  by_cases hlen : L.length = M.length
  case neg =>
    have HF := Lib.hid (show q = false by rw [← HQ.out]; exact decide_eq_false (fun e => hlen (by rw [e])))
    have e1 : ((L.length : Int) != (M.length : Int)) = true := by simp; omega
    clear hlen
    go_enter Try.func36, Try.ntmps36
    go_wp2
    go_ret
    exact ⟨by rw [HF.out]; rfl, Below.refl _ _⟩
  have e1 : ((L.length : Int) != (M.length : Int)) = false := by simp [hlen]
  have HLEN := Lib.hid hlen
  clear hlen
  go_enter Try.func36, Try.ntmps36
  go_wp2
  go_loopw [5] (fun i wi => ∃ k : Nat, k ≤ L.length ∧ i = .int .i64 k ∧ Below w.heap.size w wi ∧ L.take k = M.take k) (fun i _ => L.length - (intOf i).toNat)
  case atStart => exact ⟨0, by omega, rfl, Below.refl _ _, rfl⟩
  case round =>
    obtain ⟨k, hk, rfl, hb, ht⟩ := hrel
    have HB := Lib.hid hb
    have HT := Lib.hid ht
    by_cases hlt : k < L.length
    · obtain ⟨⟨x1, x2⟩, hx⟩ : ∃ x, L[k]? = some x := ⟨_, List.getElem?_eq_getElem hlt⟩
      obtain ⟨⟨y1, y2⟩, hy⟩ : ∃ x, M[k]? = some x := ⟨_, List.getElem?_eq_getElem (by rw [← HLEN.out]; exact hlt)⟩
      obtain ⟨g, o, e, _, q0, q1⟩ := drop_two (HL.out.below hb (Nat.le_refl _)) hx
      obtain ⟨g', o', e', _, r0, r1⟩ := drop_two (HM.out.below hb (Nat.le_refl _)) hy
      subst e e'
      have i1 : (k : Int) < (L.length : Int) := by omega
      have i2 : (k : Int) < (M.length : Int) := by have := HLEN.out; omega
      have i3 : (k : Int) < 500000 := by omega
      have hne := neq24 x1 x2 y1 y2
      by_cases hxy : x1 = y1 ∧ x2 = y2
      · have HS := Lib.hid (show L.take (k + 1) = M.take (k + 1) by rw [List.take_add_one, List.take_add_one, hx, hy, ht, hxy.1, hxy.2])
        rw [show decide (x1 = y1 ∧ x2 = y2) = true from decide_eq_true hxy] at hne
        clear hx hy hxy hb ht
        go_wp2
        go_quiet (fail)
        go_wp2
        go_roundw
        case rel => exact ⟨k + 1, by omega, by go_num, HB.out.trans ((below_drewNg wr _).mono HB.out.size), HS.out⟩
        case measure => simp [intOf]; omega
      · have HF := Lib.hid (show q = false by
          rw [← HQ.out]
          refine decide_eq_false (fun e => hxy ?_)
          rw [e, hy] at hx
          cases hx
          exact ⟨rfl, rfl⟩)
        rw [show decide (x1 = y1 ∧ x2 = y2) = false from decide_eq_false hxy] at hne
        clear hx hy hxy hb ht
        go_wp2
        go_quiet (fail)
        go_wp2
        go_ret
        exact ⟨by rw [HF.out]; rfl, HB.out.trans ((below_drewNg wr _).mono HB.out.size)⟩
    · obtain rfl : k = L.length := by omega
      have HF := Lib.hid (show q = true by
        rw [← HQ.out]
        refine decide_eq_true ?_
        rw [List.take_length, HLEN.out, List.take_length] at ht
        exact ht)
      clear hb ht
      go_wp2
      go_ret
      exact ⟨by rw [HF.out]; rfl, HB.out⟩
set_option maxRecDepth 100000 in
set_option maxHeartbeats 4000000 in
theorem refuses_no (A : Option Addr) (c : Nat) (n : Int) (L : List Ed) (k a p d : Int) (w : World) (hL : Lies enc2 2 w A L) (hlen : L.length ≤ 100000) (h : refC n L k a p ≠ 0) :
    Calls Try.prog 24 #[.int .i64 n, .slice A L.length c, rq k a p d] w fun e w' => e = .returned (.int .i64 (refC n L k a p)) ∧ Below w.heap.size w w' := by
  obtain ⟨W, hW, hbl, c0, c1, c2, c3⟩ := box4 w k a p d
  have HB := Lib.hid hbl
  have HLW := Lib.hid (hL.below hbl (Nat.le_refl _))
  have HN := Lib.hid (refnorm_at A c n L W (hL.below hbl (Nat.le_refl _)) (by omega))
  obtain ⟨e1, he1⟩ : ∃ q, (normC n L).1 = q := ⟨_, rfl⟩
  obtain ⟨M, hM⟩ : ∃ q, (normC n L).2 = q := ⟨_, rfl⟩
  obtain ⟨v, hv⟩ : ∃ q, refC n L k a p = q := ⟨_, rfl⟩
  rw [he1, hM] at HN
  rw [hv] at h ⊢
  unfold refC at hv
  rw [he1, hM] at hv
  have hMl : M.length ≤ 100000 := by
    rw [← hM]
    unfold normC
    split
    · simp
    · split
      · simp
      · exact Nat.le_trans (nrm_len L) hlen
  have HML := Lib.hid hMl
  have HCK := Lib.hid (fun V => rchk_at k a p d n V)
  have HKC := Lib.hid (fun (W2 : World) (hb : Below W.heap.size W W2) => And.intro (keep_cell c0 hb) (And.intro (keep_cell c1 hb) (And.intro (keep_cell c2 hb) (keep_cell c3 hb))))
  have i0 : (v != 0) = true := by simpa using h
  have i00 : (v == 0) = false := by simpa using h
  clear hL hM he1 hMl
  by_cases h1 : e1 ≠ 0
  · rw [if_pos h1] at hv
    subst hv
    have j0 : (e1 == 0) = false := by simpa using h1
    clear h1 h hbl
    go_enter Try.func24, Try.ntmps24
    go_wp2_with (go_at_call 18; refine HN.out.mono ?_; rintro e w2 ⟨v', rfl, hr, hb2⟩; have HR := Lib.hid hr; have HB2 := Lib.hid hb2; clear hr hb2)
    go_ret
    exact ⟨rfl, HB.out.trans (HB2.out.mono HB.out.size)⟩
  · rw [if_neg h1] at hv
    have h1 : e1 = 0 := Classical.byContradiction h1
    subst h1
    by_cases h2 : L ≠ M
    · rw [if_pos h2] at hv
      have hdec : decide (L = M) = false := decide_eq_false h2
      have HEQ := Lib.hid (fun (c' : Nat) (B : Option Addr) (V : World) (h1 : Lies enc2 2 V A L) (h2 : Lies enc2 2 V B M) => hdec ▸ sameD_at A B c c' L M V h1 h2 (by omega) (by have := HML.out; omega))
      subst hv
      clear h2 h hbl hdec
      go_enter Try.func24, Try.ntmps24
      go_wp2_with (first | (have _ := HR; go_at_call 36; refine (HEQ.out c9 A9 _ HL9.out HM9.out).mono ?_; rintro e w3 ⟨rfl, hb3⟩; have HB3 := Lib.hid hb3; clear hb3) | (go_at_call 18; refine HN.out.mono ?_; rintro e w2 ⟨v', rfl, hr, hb2⟩; have HR := Lib.hid hr; have HB2 := Lib.hid hb2; obtain ⟨A9, c9, rfl, _, _⟩ := row_open enc2_len hr; have HL9 := Lib.hid (HLW.out.below hb2 (Nat.le_refl _)); have HM9 := Lib.hid (row_lies enc2_len hr); clear hr hb2))
      go_ret
      exact ⟨rfl, HB.out.trans ((HB2.out.trans (HB3.out.mono HB2.out.size)).mono HB.out.size)⟩
    · rw [if_neg h2] at hv
      have h2 : L = M := Classical.byContradiction h2
      have hdec : decide (L = M) = true := decide_eq_true h2
      have HEQ := Lib.hid (fun (c' : Nat) (B : Option Addr) (V : World) (h1 : Lies enc2 2 V A L) (h2 : Lies enc2 2 V B M) => hdec ▸ sameD_at A B c c' L M V h1 h2 (by omega) (by have := HML.out; omega))
      rw [hv] at HCK
      have HV := Lib.hid hv
      clear h2 h hbl hdec hv
      go_enter Try.func24, Try.ntmps24
      go_wp2_with (first | (have _ := HB3; go_at_call 20; refine (HCK.out _).mono ?_; rintro e w4 ⟨rfl, hb4⟩; have HB4 := Lib.hid hb4; clear hb4) | (have _ := HR; go_at_call 36; refine (HEQ.out c9 A9 _ HL9.out HM9.out).mono ?_; rintro e w3 ⟨rfl, hb3⟩; have HB3 := Lib.hid hb3; obtain ⟨z0, z1, z2, z3⟩ := HKC.out w3 (HB2.out.trans (hb3.mono HB2.out.size)); clear hb3) | (go_at_call 18; refine HN.out.mono ?_; rintro e w2 ⟨v', rfl, hr, hb2⟩; have HR := Lib.hid hr; have HB2 := Lib.hid hb2; obtain ⟨A9, c9, rfl, _, _⟩ := row_open enc2_len hr; have HL9 := Lib.hid (HLW.out.below hb2 (Nat.le_refl _)); have HM9 := Lib.hid (row_lies enc2_len hr); clear hr hb2))
      go_ret
      exact ⟨rfl, HB.out.trans ((HB2.out.trans ((HB3.out.trans (HB4.out.mono HB3.out.size)).mono HB2.out.size)).mono HB.out.size)⟩
set_option maxRecDepth 100000 in
set_option maxHeartbeats 4000000 in
theorem docrun_no (A : Option Addr) (c : Nat) (n : Int) (L : List Ed) (k a p d : Int) (w : World) (hL : Lies enc2 2 w A L) (hlen : L.length ≤ 100000) (h : refC n L k a p ≠ 0) :
    Calls Try.prog 14 #[.int .i64 n, .slice A L.length c, rq k a p d] w fun e w' => e = .returned (.tuple #[.slice none 0 0, .int .i64 0, .int .i64 (refC n L k a p)]) ∧ Below w.heap.size w w' := by
  obtain ⟨W, hW, hbl, c0, c1, c2, c3⟩ := box4 w k a p d
  have HB := Lib.hid hbl
  have HR := Lib.hid (refuses_no A c n L k a p d W (hL.below hbl (Nat.le_refl _)) hlen h)
  obtain ⟨v, hv⟩ : ∃ q, refC n L k a p = q := ⟨_, rfl⟩
  rw [hv] at h HR ⊢
  have i0 : (v != 0) = true := by simpa using h
  clear hL hlen h hbl hv
  go_enter Try.func14, Try.ntmps14
  go_wp2_with (go_at_call 24; refine HR.out.mono ?_; rintro e w2 ⟨rfl, hb2⟩; have HB2 := Lib.hid hb2; clear hb2)
  exact bodyPost_ret (v := .tuple #[.slice none 0 0, .int .i64 0, .int .i64 v]) (by simp [results, Try.results14, go_sem]) rfl ⟨rfl, HB.out.trans (HB2.out.mono HB.out.size)⟩
end Go.Proofs.Ytpmgkmodpneiiaa.E
