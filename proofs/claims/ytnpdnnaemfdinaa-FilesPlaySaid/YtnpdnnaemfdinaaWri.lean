/- Write. Conditions: those that each theorem names. -/
import Derived.Test.YtnpdnnaemfdinaaDn
namespace Go.Proofs.Ytnpdnnaemfdinaa.F
open Go.RowKit Go.Maps Go.Sort Go.Shelf
open Go.Proofs.Ytnpdnnaemfdinaa.Ma
set_option linter.unusedVariables false
set_option linter.unusedSimpArgs false
theorem page_at (s : ByteArray) (w : World) : Calls Try.prog 39 #[.string s] w fun e w' => e = .returned (.bool (decide (s.size = 128))) ∧ w = w' := by
  by_cases h : s.size = 128
  · rw [show decide (s.size = 128) = true by simpa using h]
    have e1 : (((s.size : Nat) : Int) == 128) = true := by simp; omega
    clear h
    go_enter Try.func39, Try.ntmps39
    go_wp2
    go_ret
    exact ⟨rfl, rfl⟩
  · rw [show decide (s.size = 128) = false by simpa using h]
    have e1 : (((s.size : Nat) : Int) == 128) = false := by simp; omega
    clear h
    go_enter Try.func39, Try.ntmps39
    go_wp2
    go_ret
    exact ⟨rfl, rfl⟩
def badP (s : ByteArray) : Bool := !decide (s.size = 128)
theorem badp_at (s : ByteArray) (w : World) : Calls Try.prog 38 #[.string s] w fun e w' => e = .returned (.bool (badP s)) ∧ w = w' := by
  have hp := fun w => page_at s w
  unfold badP
  generalize decide (s.size = 128) = q at hp ⊢
  have HP := Lib.hid hp
  clear hp
  go_enter Try.func38, Try.ntmps38
  go_wp2_with (go_at_call 39; refine (HP.out _).mono ?_; rintro e w' ⟨rfl, rfl⟩)
  go_ret
  exact ⟨rfl, rfl⟩
theorem enters38 : ∀ args w, (callFunc 38 args).run Try.prog w = .ok (.enter 38 args) w := enters_of Try.func38 (by kernel_rfl) rfl
theorem con_any (A : Option Addr) (c : Nat) (P : List ByteArray) (w : World) (hL : Lies encS 1 w A P) (hlen : P.length ≤ 1000000) {q : Bool} (hq : P.any badP = q) :
    Calls Try.prog 37 #[.slice A P.length c, .func (.func 38) #[] #[]] w fun e w' => e = .returned (.bool q) ∧ Below w.heap.size w w' := by
  subst hq
  cases P with
  | nil => exact (AnyE.slices_ContainsFunc_empty Try.conS A c _ w).mono fun _ _ ⟨he, hw⟩ => ⟨he, hw ▸ Below.refl _ _⟩
  | cons y r =>
    obtain ⟨g, o, rfl, hg, _⟩ := hL 0 y rfl
    have := AnyE.slices_ContainsFunc Try.conS (fun s : ByteArray => Value.string s) badP 38 #[] enters38 g o (y :: r).length c (y :: r) w (fun W x hW => (badp_at x W).mono fun e w' ⟨he, hw⟩ => ⟨he, 0, hw.symm⟩) (Nat.le_refl _) (by omega)
      (fun j hj => by
        obtain ⟨b', o', e', _, hcc⟩ := hL j (y :: r)[j]! (by rw [List.getElem!_eq_getElem?_getD, List.getElem?_eq_getElem hj]; rfl)
        cases e'
        have := hcc 0 _ rfl
        rwa [Nat.mul_one, Nat.add_zero] at this)
    rw [List.take_length] at this
    exact this.mono fun e w' ⟨he, m, hm⟩ => ⟨he, hm ▸ below_drewNg w m⟩
theorem clone_nil (A : Option Addr) (c : Nat) (w : World) : Calls Try.prog 41 #[.slice A 0 c] w fun e w' => ∃ A' c', e = .returned (.slice A' 0 c') ∧ Below w.heap.size w w' := by
  cases A with
  | none => exact (Any.slices_Clone_string_nil Try.cloneS 0 c w).mono fun _ _ ⟨he, hw⟩ => ⟨none, 0, he, hw ▸ Below.refl _ _⟩
  | some a =>
    refine (Any.slices_Clone_string_zero Try.cloneS a c w).mono ?_
    rintro e w' ⟨v', he, hr, _, hb⟩
    obtain ⟨A', c', rfl, _, _⟩ := row_open encS_len hr
    exact ⟨A', c', he, hb⟩
theorem clone_any (A : Option Addr) (c : Nat) (P : List ByteArray) (w : World) (hP : P ≠ []) (hL : Lies encS 1 w A P) (hlen : P.length ≤ 1000000) :
    Calls Try.prog 41 #[.slice A P.length c] w fun e w' => ∃ A' c', e = .returned (.slice A' P.length c') ∧ w'.ownsRow w.heap.size 9 1 (.slice A' P.length c') P.length (P.map Value.string) ∧ Below w.heap.size w w' := by
  cases P with
  | nil => exact absurd rfl hP
  | cons y r =>
    obtain ⟨g, o, rfl, hg, _⟩ := hL 0 y rfl
    have := Any.slices_Clone_string Try.cloneS g o (y :: r).length c (y :: r) w (Nat.le_refl _) (by omega)
      (fun j hj => by
        obtain ⟨b', o', e', _, hcc⟩ := hL j (y :: r)[j] (List.getElem?_eq_getElem hj)
        cases e'
        have := hcc 0 _ rfl
        rw [Nat.mul_one, Nat.add_zero] at this
        rw [this]
        simp [List.getD, List.getElem?_eq_getElem hj])
    rw [List.take_length] at this
    refine this.mono fun e w' ⟨v', he, hr, _, hb⟩ => ?_
    obtain ⟨A', c', rfl, _, _⟩ := row_open encS_len (by rw [← cellsS] at hr; exact hr)
    exact ⟨A', c', he, hr, hb⟩
/-- The files behind lay. -/
theorem FsX.laid {X : Nat → Prop} {w w1 w2 : World} {b bm : Nat} {room left : Int} {L : List En} (h : FsX X w b bm room left (dn L)) (hL : FsAt 0 w b bm room left L) (hX : ∀ p ∈ L, ∀ g, p.2.1.ownBlock = some g → ¬ X g) (hb : Below w.heap.size w w1) (s : ByteArray) (v : Value) (P : List ByteArray) (hP : P ≠ [])
    (hv : ∀ g, v.ownBlock = some g → ¬ X g) (h2 : FsAt 0 w2 b bm room left (ins (s, v, P) (del s L))) (hf : Fr (fun k => k = bm) w1 w2) (hroom : (pagesOf (del s L) : Int) + P.length ≤ room) :
    FsX X w2 b bm room left (setD s P (dn L)) ∧ Fr (fun k => ¬ X k) w w2 := by
  have hd : dn (ins (s, v, P) (del s L)) = setD s P (dn L) := by rw [dn_ins, dn_del]; unfold setD; rw [if_neg hP]
  refine ⟨⟨⟨_, h2, fun p hp g hg => ?_, hd⟩, h.nb, h.nbm, fun k hk => Nat.lt_of_lt_of_le (h.low k hk) (Nat.le_trans hb.size hf.size), ⟨?_, h.rm.2⟩, h.lf⟩, ((Fr.of_below hb).mono (fun _ e => e.elim)).trans (hf.mono (fun k e => by subst e; exact h.nbm))⟩
  · rcases mem_ins.1 hp with rfl | hp
    · exact hv g hg
    · exact hX p (mem_del.1 hp).1 g hg
  · rw [← hd, pages_dn, pages_ins]
    show ((P.length + pagesOf (del s L) : Nat) : Int) ≤ room
    omega
theorem FsX.gone {X : Nat → Prop} {w w1 w2 : World} {b bm : Nat} {room left : Int} {L : List En} (h : FsX X w b bm room left (dn L)) (hL : FsAt 0 w b bm room left L) (hX : ∀ p ∈ L, ∀ g, p.2.1.ownBlock = some g → ¬ X g) (hb : Below w.heap.size w w1) (s : ByteArray)
    (h2 : FsAt 0 w2 b bm room left (del s L)) (hf : Fr (fun k => k = bm) w1 w2) :
    FsX X w2 b bm room left (delD s (dn L)) ∧ Fr (fun k => ¬ X k) w w2 := by
  have hd : dn (del s L) = delD s (dn L) := dn_del s L
  refine ⟨⟨⟨_, h2, fun p hp g hg => hX p (mem_del.1 hp).1 g hg, hd⟩, h.nb, h.nbm, fun k hk => Nat.lt_of_lt_of_le (h.low k hk) (Nat.le_trans hb.size hf.size), ⟨?_, h.rm.2⟩, h.lf⟩, ((Fr.of_below hb).mono (fun _ e => e.elim)).trans (hf.mono (fun k e => by subst e; exact h.nbm))⟩
  rw [← hd, pages_dn]
  have := pages_del (s := s) hL.rise
  have := h.rm.1
  rw [pages_dn] at this
  omega
/-- What lay wants of a row in new memory. -/
theorem own_base {w : World} {e : TypeId} {k B n : Nat} {v : Value} {xs : List Value} (h : w.ownsRow B e k v n xs) {g : Nat} (hg : v.ownBlock = some g) : B ≤ g := by
  rcases h.2 with ⟨rfl, _⟩ | ⟨g', cap, cur, rfl, hb, _⟩
  · cases hg
  · cases hg; exact hb
set_option maxRecDepth 100000 in
set_option maxHeartbeats 2000000 in
theorem x_write {X : Nat → Prop} {w : World} {b bm : Nat} {room left : Int} {D : List De} (s : ByteArray) (hs : s.size ≤ maxLen) (A : Option Addr) (c : Nat) (P : List ByteArray) (hP : Lies encS 1 w A P) (hlen : P.length ≤ 1000000) (h : FsX X w b bm room left D) :
    Calls Try.prog 11 #[.pointer (some ⟨b, 0, none⟩), .string s, .slice A P.length c] w fun e w' => e = .returned (.int .i64 (writeF room D s P).1) ∧ FsX X w' b bm room left (writeF room D s P).2 ∧ Fr (fun k => ¬ X k) w w' := by
  obtain ⟨q, hq⟩ : ∃ q, P.any badP = q := ⟨_, rfl⟩
  obtain ⟨nk, hnk⟩ : ∃ q, nameOk s = q := ⟨_, rfl⟩
  have c2 := h.c2
  have hrm := h.rm
  have HX := Lib.hid h
  have HP := Lib.hid hP
  have HN := Lib.hid (name_at s w hs)
  have HNK := Lib.hid hnk
  have HQ := Lib.hid hq
  obtain ⟨L, h1, h2, rfl⟩ := h.ex
  have H1 := Lib.hid h1
  have H2 := Lib.hid h2
  have hu : pagesD (dn L) ≤ 4096 := HX.out.small
  have hll := HX.out.look_le s
  have hq' : (P.any fun x => !decide (x.size = 128)) = q := hq
  unfold writeF
  rw [hnk, hq']
  rw [hnk] at HN
  have HLE := Lib.hid hlen
  clear hnk hq hq' h h1 h2 hP hlen
  cases nk
  · rw [if_pos (by rfl)]
    go_enter Try.func11, Try.ntmps11
    go_wp2_with (first
      | (go_at_call 36; refine (none_at _ _ _ c2).mono ?_; rintro e w' ⟨rfl, rfl⟩)
      | (go_at_call 16; refine HN.out.mono ?_; rintro e w1 ⟨rfl, hb1⟩; have HB1 := Lib.hid hb1; clear hb1))
    go_ret
    exact ⟨rfl, HX.out.below HB1.out, (Fr.of_below HB1.out).mono (fun _ e => e.elim)⟩
  cases q
  · obtain ⟨u, hu1⟩ : ∃ u, pagesD (dn L) = u := ⟨_, rfl⟩
    obtain ⟨k, hk1⟩ : ∃ k, (lookD (dn L) s).length = k := ⟨_, rfl⟩
    obtain ⟨m, hm1⟩ : ∃ m, P.length = m := ⟨_, rfl⟩
    rw [if_neg (by decide), hu1, hk1, hm1]
    have HC := Lib.hid (fun w hl => con_any A c P w hl HLE.out HQ.out)
    have hrm' : (u : Int) ≤ room ∧ room ≤ 4096 := by rw [hu1] at hrm; exact hrm
    rw [hk1] at hll
    rw [hm1] at HC
    have hm6 : m ≤ 1000000 := by have := HLE.out; omega
    have wq1 : IntKind.i64.wrap (room - (u : Int)) = room - (u : Int) := IntWalk.i64_in _ ⟨by omega, by omega⟩
    have wq2 : IntKind.i64.wrap (room - (u : Int) + (k : Int)) = room - (u : Int) + (k : Int) := IntWalk.i64_in _ ⟨by omega, by omega⟩
    have HM := Lib.hid hm1
    have HK := Lib.hid hk1
    have HU := Lib.hid hu1
    have XU := Lib.hid (fun (w' : World) (hx : FsX X w' b bm room left (dn L)) => x_used hx)
    have XP := Lib.hid (fun (w' : World) (hx : FsX X w' b bm room left (dn L)) => x_pages s hs hx)
    rw [hu1] at XU
    rw [hk1] at XP
    clear hm1 hk1 hu1 hu
    by_cases hgt : room - (u : Int) + (k : Int) < (m : Int)
    · rw [if_pos hgt]
      go_enter Try.func11, Try.ntmps11
      go_wp2_with (first
        | (go_at_call 36; refine (none_at _ _ _ c2).mono ?_; rintro e w' ⟨rfl, rfl⟩)
        | (go_at_call 16; refine HN.out.mono ?_; rintro e w1 ⟨rfl, hb1⟩; have HB1 := Lib.hid hb1; have HL1 := Lib.hid (HP.out.below hb1 (Nat.le_refl _)); clear hb1)
        | (go_at_call 37; refine (HC.out _ HL1.out).mono ?_; rintro e w2 ⟨rfl, hb2⟩; have HB2 := Lib.hid (HB1.out.trans (hb2.mono HB1.out.size)); clear hb2; have X2 := Lib.hid (HX.out.below HB2.out); have d0 := X2.out.c0))
      go_region_held3 (fun wx => wx.cell? ⟨b, 0, none⟩ = some (.int .i64 room))
        (first | exact f0 | exact d0)
        ((first
          | (go_at_call 26; refine (XP.out _ X3.out).mono ?_; rintro e w4 ⟨rfl, rfl⟩)
          | (go_at_call 26; refine (XP.out _ (X2.out.drewN 1)).mono ?_; rintro e w4 ⟨rfl, rfl⟩)
          | (go_at_call 18; refine (XU.out _ (X2.out.drewN 1)).mono ?_; rintro e w3 ⟨rfl, hb3⟩; have HB3 := Lib.hid (HB2.out.trans ((show Below w2.heap.size w2 w3 from (below_drewNg w2 1).trans hb3).mono HB2.out.size)); clear hb3; have X3 := Lib.hid (HX.out.below HB3.out); have f0 := X3.out.c0)))
      all_goals
        go_wp2
        go_ret
        exact ⟨rfl, X3.out, (Fr.of_below HB3.out).mono (fun _ e => e.elim)⟩
    · rw [if_neg hgt]
      have hpd := pages_del (s := s) H1.out.rise
      rw [← lookD_dn, HK.out, ← pages_dn L, HU.out] at hpd
      have HSM := Lib.hid (show (pagesOf (del s L) : Int) + P.length ≤ room by rw [HM.out]; omega)
      have HSM4 := Lib.hid (show pagesOf (del s L) + P.length ≤ 4096 by have := HSM.out; omega)
      have HFU := Lib.hid (show ∀ x ∈ P, x.size = 128 from fun x hx => by
        have := List.any_eq_false.1 HQ.out x hx
        unfold badP at this
        simpa using this)
      clear hpd
      by_cases hPe : P = []
      · subst hPe
        have hm0 : 0 = m := HM.out
        subst hm0
        have HCN := Lib.hid (fun w => clone_nil A c w)
        go_enter Try.func11, Try.ntmps11
        go_wp2_with (first
          | (go_at_call 36; refine (none_at _ _ _ c2).mono ?_; rintro e w' ⟨rfl, rfl⟩)
          | (go_at_call 16; refine HN.out.mono ?_; rintro e w1 ⟨rfl, hb1⟩; have HB1 := Lib.hid hb1; have HL1 := Lib.hid (HP.out.below hb1 (Nat.le_refl _)); clear hb1)
          | (go_at_call 37; refine (HC.out _ HL1.out).mono ?_; rintro e w2 ⟨rfl, hb2⟩; have HB2 := Lib.hid (HB1.out.trans (hb2.mono HB1.out.size)); clear hb2; have X2 := Lib.hid (HX.out.below HB2.out); have d0 := X2.out.c0))
        go_region_held3 (fun wx => wx.cell? ⟨b, 0, none⟩ = some (.int .i64 room))
          (first | exact f0 | exact d0)
          ((first
            | (go_at_call 26; refine (XP.out _ X3.out).mono ?_; rintro e w4 ⟨rfl, rfl⟩)
            | (go_at_call 26; refine (XP.out _ (X2.out.drewN 1)).mono ?_; rintro e w4 ⟨rfl, rfl⟩)
            | (go_at_call 18; refine (XU.out _ (X2.out.drewN 1)).mono ?_; rintro e w3 ⟨rfl, hb3⟩; have HB3 := Lib.hid (HB2.out.trans ((show Below w2.heap.size w2 w3 from (below_drewNg w2 1).trans hb3).mono HB2.out.size)); clear hb3; have X3 := Lib.hid (HX.out.below HB3.out); have f0 := X3.out.c0)))
        all_goals
          go_wp2_with (first
            | (go_at_call 41; refine (HCN.out _).mono ?_; rintro e w5 ⟨A5, c5, rfl, hb5⟩; have HB5 := Lib.hid (HB3.out.trans (hb5.mono HB3.out.size)); clear hb5)
            | (go_at_call 40; refine (lay_del (H1.out.below HB5.out) s hs A5 c5).mono ?_; rintro e w6 ⟨rfl, h6, hf6⟩))
          go_ret
          have := FsX.gone HX.out H1.out H2.out HB5.out s h6 hf6
          rw [show setD s [] (dn L) = delD s (dn L) from rfl]
          exact ⟨rfl, this⟩
      · have HCN := Lib.hid (fun w hl => clone_any A c P w hPe hl HLE.out)
        have HPE := Lib.hid hPe
        have hmr : P.length = m := HM.out
        rw [hmr] at HCN
        clear hPe hmr
        go_enter Try.func11, Try.ntmps11
        go_wp2_with (first
          | (go_at_call 36; refine (none_at _ _ _ c2).mono ?_; rintro e w' ⟨rfl, rfl⟩)
          | (go_at_call 16; refine HN.out.mono ?_; rintro e w1 ⟨rfl, hb1⟩; have HB1 := Lib.hid hb1; have HL1 := Lib.hid (HP.out.below hb1 (Nat.le_refl _)); clear hb1)
          | (go_at_call 37; refine (HC.out _ HL1.out).mono ?_; rintro e w2 ⟨rfl, hb2⟩; have HB2 := Lib.hid (HB1.out.trans (hb2.mono HB1.out.size)); clear hb2; have X2 := Lib.hid (HX.out.below HB2.out); have d0 := X2.out.c0))
        go_region_held3 (fun wx => wx.cell? ⟨b, 0, none⟩ = some (.int .i64 room))
          (first | exact f0 | exact d0)
          ((first
            | (go_at_call 26; refine (XP.out _ X3.out).mono ?_; rintro e w4 ⟨rfl, rfl⟩)
            | (go_at_call 26; refine (XP.out _ (X2.out.drewN 1)).mono ?_; rintro e w4 ⟨rfl, rfl⟩)
            | (go_at_call 18; refine (XU.out _ (X2.out.drewN 1)).mono ?_; rintro e w3 ⟨rfl, hb3⟩; have HB3 := Lib.hid (HB2.out.trans ((show Below w2.heap.size w2 w3 from (below_drewNg w2 1).trans hb3).mono HB2.out.size)); clear hb3; have X3 := Lib.hid (HX.out.below HB3.out); have f0 := X3.out.c0)))
        all_goals
          have HL3 := Lib.hid (HP.out.below HB3.out (Nat.le_refl _))
          go_wp2_with (first
            | (go_at_call 41; refine (HCN.out _ HL3.out).mono ?_; rintro e w5 ⟨A5, c5, rfl, hr5, hb5⟩; have HB5 := Lib.hid (HB3.out.trans (hb5.mono HB3.out.size)); have HR5 := Lib.hid hr5; clear hb5 hr5)
            | (go_at_call 40; refine (lay_put (H1.out.below HB5.out) s HNK.out _ P HPE.out (row_base (by rw [HM.out]; exact HR5.out) (Nat.zero_le _)) (fun p hp g hg e5 => by
                have h1 := (own_lt (H1.out.rows p (mem_del.1 hp).1).1 hg).1
                have h2 := own_base HR5.out e5
                have h3 := HB3.out.size
                omega) HSM4.out HFU.out).mono ?_; rintro e w6 ⟨rfl, h6, hf6⟩))
          go_ret
          have := FsX.laid HX.out H1.out H2.out HB5.out s _ P HPE.out (fun g hg hx => by
                have h1 := HX.out.low g hx
                have h2 := own_base HR5.out hg
                have h3 := HB3.out.size
                omega) h6 hf6 HSM.out
          exact ⟨rfl, this⟩
  · rw [if_pos (by rfl)]
    have HC := Lib.hid (fun w hl => con_any A c P w hl HLE.out HQ.out)
    go_enter Try.func11, Try.ntmps11
    go_wp2_with (first
      | (go_at_call 36; refine (none_at _ _ _ c2).mono ?_; rintro e w' ⟨rfl, rfl⟩)
      | (go_at_call 16; refine HN.out.mono ?_; rintro e w1 ⟨rfl, hb1⟩; have HB1 := Lib.hid hb1; have HL1 := Lib.hid (HP.out.below hb1 (Nat.le_refl _)); clear hb1)
      | (go_at_call 37; refine (HC.out _ HL1.out).mono ?_; rintro e w2 ⟨rfl, hb2⟩; have HB2 := Lib.hid (HB1.out.trans (hb2.mono HB1.out.size)); clear hb2))
    go_ret
    exact ⟨rfl, HX.out.below HB2.out, (Fr.of_below HB2.out).mono (fun _ e => e.elim)⟩
end Go.Proofs.Ytnpdnnaemfdinaa.F
