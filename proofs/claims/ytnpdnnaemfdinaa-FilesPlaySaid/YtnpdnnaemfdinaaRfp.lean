/- The document's Put, Flip. Conditions: those that each theorem names. -/
import Derived.Test.YtnpdnnaemfdinaaRfw
namespace Go.Proofs.Ytnpdnnaemfdinaa.F
open Go.RowKit Go.Maps Go.Sort Go.Shelf
open Go.Proofs.Ytnpdnnaemfdinaa.Ma
set_option linter.unusedVariables false
set_option linter.unusedSimpArgs false
/-- A store into a row of the call's own. -/
theorem row_put {w : World} {B : Nat} {A : Option Addr} {m c j : Nat} {P : List ByteArray} {x : ByteArray} (h : w.ownsRow B 9 1 (.slice A m c) m (cellsK encS P)) (hm : P.length = m) (hj : j < m) :
    ∃ g, A = some ⟨g, 0, none⟩ ∧ B ≤ g ∧ g < w.heap.size ∧ (∃ v, w.cell? ⟨g, j, none⟩ = some v) ∧ w.frozen? ⟨g, j, none⟩ = false ∧
      (w.setCell ⟨g, j, none⟩ (.string x)).ownsRow B 9 1 (.slice A m c) m (cellsK encS (P.set j x)) ∧ Fr (fun k => k = g) w (w.setCell ⟨g, j, none⟩ (.string x)) := by
  subst hm
  obtain ⟨y, hy⟩ : ∃ y, P[j]? = some y := ⟨_, List.getElem?_eq_getElem hj⟩
  obtain ⟨g, c', e, h1, h2, _, _, h3, h4⟩ := row_s (by rw [cellsS] at h; exact h) hy
  cases e
  have := row_set (i := 0) (y := x) (u := .string x) encS_len h hy (by omega) rfl
  rw [Nat.mul_one, Nat.add_zero] at this
  exact ⟨g, rfl, h1, h2, ⟨_, h3⟩, h4, this, Fr.setCell w ⟨g, j, none⟩ (.string x)⟩
section
variable {X : Nat → Prop} {w : World} {r : Nat} {room left : Int} {D : List De}
set_option maxRecDepth 100000 in
set_option maxHeartbeats 4000000 in
attribute [local irreducible] wpQuiet in
theorem rput_at (s : ByteArray) (hs : s.size ≤ maxLen) (i : Int) (x : ByteArray) (h : RfX X w r room left D) (hrise : D.Pairwise fun p q => nm p.1 < nm q.1) (hn : D.length ≤ 4096) (hp : (pagesD D : Int) ≤ room) (hrm : room ≤ 4096) (hll : (lookD D s).length ≤ 4096) :
    Calls Try.prog 48 #[.pointer (some ⟨r, 0, none⟩), .string s, .int .i64 i, .string x] w fun e w' => e = .returned (.int .i64 (putF room D s i x).1) ∧ RfX (Xw X w w') w' r room left (putF room D s i x).2 ∧ Fr (fun k => k = r) w w' := by
  obtain ⟨rr, hrr⟩ : ∃ q, putF room D s i x = q := ⟨_, rfl⟩
  rw [hrr]
  have HRR := Lib.hid hrr
  have H0 := Lib.hid (h.mono (fun k hk => .inl hk) : RfX (Xw X w w) w r room left D)
  have HN := Lib.hid (rname_at s hs w)
  have HR := Lib.hid (rows_at s h hn)
  have HU := Lib.hid (fun n => rused_at (h.drewN n) hn (by omega))
  have HS := Lib.hid (fun (w7 : World) (A7 : Option Addr) (c7 m : Nat) (P : List ByteArray) (hb : Below w.heap.size w w7) (hm : P.length = m) (hrow : w7.ownsRow w.heap.size 9 1 (.slice A7 m c7) m (cellsK encS P)) => set_own (s := s) h hrise hn hb hm hrow)
  have c0 := h.c0
  obtain ⟨nk, hnk⟩ : ∃ q, nameOk s = q := ⟨_, rfl⟩
  rw [hnk] at HN
  have HNK := Lib.hid hnk
  obtain ⟨P, hP⟩ : ∃ P, lookD D s = P := ⟨_, rfl⟩
  rw [hP] at HR hll
  obtain ⟨m, hm⟩ : ∃ m, P.length = m := ⟨_, rfl⟩
  rw [hm] at HR hll
  have HP := Lib.hid (And.intro hP hm)
  obtain ⟨u, hu⟩ : ∃ u, pagesD D = u := ⟨_, rfl⟩
  rw [hu] at HU hp
  have HUU := Lib.hid hu
  have hbad : (nk = false ∨ i < 0 ∨ (m : Int) < i ∨ x.size ≠ 128) → rr = (2, D) := fun hb => by
    rw [← hrr]
    unfold putF
    rw [hP, hm, hnk, if_pos hb]
  have HBAD := Lib.hid hbad
  clear hrr h hrise hn hs hP hm hu hbad hnk
  have ARM : True := trivial
  cases nk with
  | false =>
    have HV := Lib.hid (HBAD.out (.inl rfl))
    go_enter Try.func48, Try.ntmps48
    go_wp2_with (first
      | (go_at_call 54; refine HR.out.mono ?_; rintro e w' ⟨A, c, rfl, _, _, rfl⟩)
      | (go_at_call 29; refine HN.out.mono ?_; rintro e w' ⟨rfl, rfl⟩))
    go_ret
    exact ⟨by rw [HV.out]; rfl, by rw [HV.out]; exact H0.out, Fr.refl _ _⟩
  | true =>
    by_cases i0 : i < 0
    · have HV := Lib.hid (HBAD.out (.inr (.inl i0)))
      have d0 : decide (i < 0) = true := decide_eq_true i0
      go_enter Try.func48, Try.ntmps48
      go_wp2_with (first
        | (go_at_call 54; refine HR.out.mono ?_; rintro e w' ⟨A, c, rfl, _, _, rfl⟩)
        | (go_at_call 29; refine HN.out.mono ?_; rintro e w' ⟨rfl, rfl⟩))
      go_ret
      exact ⟨by rw [HV.out]; rfl, by rw [HV.out]; exact H0.out, Fr.refl _ _⟩
    have d0 : decide (i < 0) = false := decide_eq_false i0
    by_cases im : (m : Int) < i
    · have HV := Lib.hid (HBAD.out (.inr (.inr (.inl im))))
      have d1 : decide ((m : Int) < i) = true := decide_eq_true im
      go_enter Try.func48, Try.ntmps48
      go_wp2_with (first
        | (go_at_call 54; refine HR.out.mono ?_; rintro e w' ⟨A, c, rfl, _, _, rfl⟩)
        | (go_at_call 29; refine HN.out.mono ?_; rintro e w' ⟨rfl, rfl⟩))
      go_ret
      exact ⟨by rw [HV.out]; rfl, by rw [HV.out]; exact H0.out, Fr.refl _ _⟩
    have d1 : decide ((m : Int) < i) = false := decide_eq_false im
    by_cases x128 : x.size = 128
    case neg =>
      have HV := Lib.hid (HBAD.out (.inr (.inr (.inr x128))))
      have e1 : (((x.size : Nat) : Int) != 128) = true := by simp; omega
      clear x128
      go_enter Try.func48, Try.ntmps48
      go_wp2_with (first
        | (go_at_call 54; refine HR.out.mono ?_; rintro e w' ⟨A, c, rfl, _, _, rfl⟩)
        | (go_at_call 29; refine HN.out.mono ?_; rintro e w' ⟨rfl, rfl⟩))
      go_ret
      exact ⟨by rw [HV.out]; rfl, by rw [HV.out]; exact H0.out, Fr.refl _ _⟩
    have e1 : (((x.size : Nat) : Int) != 128) = false := by simp [x128]
    have hgood : ¬ (nameOk s = false ∨ i < 0 ∨ ((lookD D s).length : Int) < i ∨ x.size ≠ 128) := by
      rw [HNK.out, HP.out.1, HP.out.2]
      rintro (e | e | e | e)
      · cases e
      · exact i0 e
      · exact im e
      · exact e x128
    obtain ⟨j, rfl⟩ : ∃ j : Nat, i = (j : Int) := ⟨i.toNat, by omega⟩
    have hjm : j ≤ m := by omega
    by_cases hj : j < m
    · have HV := Lib.hid (show rr = (0, setD s (P.set j x) D) by
        rw [← HRR.out]
        unfold putF
        rw [if_neg hgood, HP.out.1, HP.out.2, if_pos (by omega), Int.toNat_natCast])
      have hj2 : (j : Int) < (m : Int) := by omega
      have hj4 : (j : Int) < 4096 := by omega
      have e2 : ((j : Int) == (m : Int)) = false := by simp; omega
      have HJ := Lib.hid hj
      clear hgood x128 hjm hj im d1 i0 d0
      go_enter Try.func48, Try.ntmps48
      go_wp2_with (first
        | (go_at_call 54; refine HR.out.mono ?_; rintro e w' ⟨A, c, rfl, hl, _, rfl⟩; have HLI := Lib.hid hl; clear hl)
        | (go_at_call 29; refine HN.out.mono ?_; rintro e w' ⟨rfl, rfl⟩))
      go_quiet ((go_at_call 28; exact Calls.quiet_of_same ((HU.out _).mono fun _ _ ⟨he, hw⟩ => ⟨he, hw.symm⟩)))
      go_wp2_with (first
        | (go_at_call 57; refine HS8.out.mono ?_; rintro e w8 ⟨rfl, h8, hf8⟩)
        | (at_builtin; refine wp_copy rfl _ _ rfl P m HP.out.2 rfl A c rfl (HLI.out.drewN nq) (by omega) ?_; intro A7 c7 w7 hr7 hb7; obtain ⟨g7, e7, hg7, hgl7, ⟨v7, q7⟩, f7, hrow7, hfr7⟩ := row_put (x := x) hr7 HP.out.2 HJ.out; subst e7; have HS8 := Lib.hid (HS.out _ _ _ _ (P.set j x) (((below_drewNg w nq).trans hb7).trans (hfr7.below ((below_drewNg w nq).trans hb7).size (fun i e => by subst e; exact hg7))) (by rw [List.length_set]; exact HP.out.2) hrow7); clear hr7 hb7 hrow7 hfr7 hg7 hgl7))
      go_ret
      exact ⟨by rw [HV.out]; rfl, by rw [HV.out]; exact h8, hf8⟩
    · obtain rfl : j = m := by omega
      have e2 : ((j : Int) == (j : Int)) = true := beq_self_eq_true _
      have hj4 : (j : Int) < 4097 := by omega
      have hset : ¬ (j : Int) < ((lookD D s).length : Int) := by rw [HP.out.1, HP.out.2]; omega
      by_cases hroom : (u : Int) = room
      · have HV := Lib.hid (show rr = (61, D) by
          rw [← HRR.out]
          unfold putF
          rw [if_neg hgood, if_neg hset, HUU.out, if_pos hroom])
        have e3 : decide (room ≤ (u : Int)) = true := decide_eq_true (by omega)
        clear hgood x128 hjm hj im d1 i0 d0 hset hroom
        go_enter Try.func48, Try.ntmps48
        go_wp2_with (first
          | (go_at_call 54; refine HR.out.mono ?_; rintro e w' ⟨A, c, rfl, hl, _, rfl⟩; have HLI := Lib.hid hl; clear hl)
          | (go_at_call 29; refine HN.out.mono ?_; rintro e w' ⟨rfl, rfl⟩))
        go_quiet ((go_at_call 28; exact Calls.quiet_of_same ((HU.out _).mono fun _ _ ⟨he, hw⟩ => ⟨he, hw.symm⟩)))
        go_wp2
        go_ret
        exact ⟨by rw [HV.out]; rfl, by rw [HV.out]; exact (H0.out.drewN nq).mono (fun k hk => hk.imp id (fun ⟨a, b⟩ => ⟨a, b⟩)), Fr.drewN _ _ _⟩
      · have HV := Lib.hid (show rr = (0, setD s (P ++ [x]) D) by
          rw [← HRR.out]
          unfold putF
          rw [if_neg hgood, if_neg hset, HUU.out, if_neg hroom, HP.out.1])
        have e3 : decide (room ≤ (u : Int)) = false := decide_eq_false (by omega)
        obtain ⟨R, hR⟩ : ∃ R, P ++ [x] = R := ⟨_, rfl⟩
        rw [hR] at HV
        have HRL := Lib.hid (show R.length = j + 1 by rw [← hR, List.length_append, HP.out.2]; rfl)
        have HSET := Lib.hid (show R.set j x = R by
          rw [← hR, List.set_append_right _ _ (by rw [HP.out.2]; exact Nat.le_refl _), HP.out.2, Nat.sub_self]
          rfl)
        have HRR2 := Lib.hid hR
        clear hgood x128 hjm hj im d1 i0 d0 hset hroom hR
        go_enter Try.func48, Try.ntmps48
        go_wp2_with (first
          | (go_at_call 54; refine HR.out.mono ?_; rintro e w' ⟨A, c, rfl, hl, _, rfl⟩; have HLI := Lib.hid hl; clear hl)
          | (go_at_call 29; refine HN.out.mono ?_; rintro e w' ⟨rfl, rfl⟩))
        go_quiet ((go_at_call 28; exact Calls.quiet_of_same ((HU.out _).mono fun _ _ ⟨he, hw⟩ => ⟨he, hw.symm⟩)))
        go_wp2_with (first
          | (go_at_call 57; refine HS8.out.mono ?_; rintro e w8 ⟨rfl, h8, hf8⟩)
          | (at_builtin; refine wp_appS rfl _ _ rfl w.heap.size P j HP.out.2 x R HRR2.out (.slice A7 j c7) rfl ((HR7.out).alloc _) w7.heap.size rfl (heap_alloc_new w7 _) (by omega) (Nat.le_trans HB7.out.size (by simp)) ?_; intro A9 c9 w9 hr9 hf9 _; rw [HRL.out, ← cellsS] at hr9; have hb9 : Below w.heap.size w w9 := (HB7.out.alloc HB7.out.size _).trans (hf9.below (Nat.le_trans HB7.out.size (by simp)) (fun i e => own_base HR7.out e)); obtain ⟨g9, e9, hg9, hgl9, ⟨v9, q9⟩, f9, hrow9, hfr9⟩ := row_put (x := x) (j := j) hr9 HRL.out (Nat.lt_succ_self _); subst e9; rw [HSET.out] at hrow9; have HS8 := Lib.hid (HS.out _ _ _ _ R (hb9.trans (hfr9.below hb9.size (fun i e => by subst e; exact hg9))) HRL.out hrow9); have hj9 : (j : Int) < ((j + 1 : Nat) : Int) := (by omega); clear hr9 hf9 hb9 hrow9 hfr9 hg9 hgl9)
          | (at_builtin; refine wp_copy rfl _ _ rfl P j HP.out.2 rfl A c rfl (HLI.out.drewN nq) (by omega) ?_; intro A7 c7 w7 hr7 hb7; have HR7 := Lib.hid (show w7.ownsRow w.heap.size 9 1 (.slice A7 j c7) j (P.map Value.string) by rw [← cellsS]; exact hr7); have HB7 := Lib.hid (show Below w.heap.size w w7 from (below_drewNg w nq).trans hb7); clear hr7 hb7))
        go_ret
        exact ⟨by rw [HV.out]; rfl, by rw [HV.out]; exact h8, hf8⟩
end
end Go.Proofs.Ytnpdnnaemfdinaa.F
