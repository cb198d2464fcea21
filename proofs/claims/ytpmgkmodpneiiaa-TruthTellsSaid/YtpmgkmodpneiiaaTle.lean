/- TruthTells: the law walked. Conditions: those that each theorem names. -/
import Derived.Test.YtpmgkmodpneiiaaDoc
namespace Go.Proofs.Ytpmgkmodpneiiaa.E
open Go.RowKit Go.Sort Go.Shelf
open Go.Proofs.Ytpmgkmodpneiiaa.Ma
set_option linter.unusedVariables false
set_option linter.unusedSimpArgs false
theorem row_capT {w : World} {B n c : Nat} {A : Option Addr} {xs : List Value} (h : w.ownsRow B 27 2 (.slice A n c) n xs) : n ≤ c ∧ c ≤ 9223372036854775807 := by
  obtain ⟨_, _, e, h1, h2⟩ := row_open enc2_len h
  cases e
  exact ⟨h1, h2⟩
theorem lies_pre {w : World} {A : Option Addr} {L M : List Ed} (h : Lies enc2 2 w A (L ++ M)) : Lies enc2 2 w A L := by
  have := h.take L.length
  rwa [List.take_left] at this
theorem lies_src {w : World} {ad : Addr} {L : List Ed} (h : Lies enc2 2 w (some ad) L) {W : World} (hb : Below w.heap.size w W) : ∀ j u, (cellsK enc2 L)[j]? = some u → W.cell? (ad.add j) = some u := by
  cases hL : L with
  | nil => intro j u hu; simp [cellsK] at hu
  | cons y r =>
    rw [hL] at h
    obtain ⟨b, o, e, _, _⟩ := h 0 y rfl
    cases e
    have := lies_news (n := (y :: r).length) enc2_len h hb 0
    rw [List.drop_zero, List.take_length, Nat.zero_mul, Nat.add_zero] at this
    exact this
/-- Numbers in a row of their own, or none. -/
def OW (B : Nat) (w : World) (A : Option Addr) (J : List Nat) : Prop := (A = none ∧ J = []) ∨ ∃ g, B ≤ g ∧ A = some ⟨g, 0, none⟩ ∧ UB w g J
def OP (B : Nat) (w : World) (A : Option Addr) (J : List Nat) : Prop := (A = none ∧ J = []) ∨ ∃ g, B ≤ g ∧ A = some ⟨g, 0, none⟩ ∧ PB w g J
theorem OW.op {B : Nat} {w : World} {A : Option Addr} {J : List Nat} (h : OW B w A J) : OP B w A J := by
  rcases h with h | ⟨g, h1, h2, h3⟩
  · exact .inl h
  · exact .inr ⟨g, h1, h2, h3.pb⟩
theorem OP.lies {B : Nat} {w : World} {A : Option Addr} {J : List Nat} (h : OP B w A J) : Lies encU 1 w A (ints J) := by
  rcases h with ⟨rfl, rfl⟩ | ⟨g, h1, rfl, h3⟩
  · intro j x hx; cases hx
  · exact h3.lies
theorem OP.to {B : Nat} {w w' : World} {A : Option Addr} {J : List Nat} (h : OP B w A J) (hb : Below w.heap.size w w') : OP B w' A J := by
  rcases h with h | ⟨g, h1, h2, h3⟩
  · exact .inl h
  · exact .inr ⟨g, h1, h2, h3.fr (Fr.of_below hb) (fun h => h)⟩
theorem OW.to {B : Nat} {w w' : World} {A : Option Addr} {J : List Nat} (h : OW B w A J) (hb : Below w.heap.size w w') : OW B w' A J := by
  rcases h with h | ⟨g, h1, h2, h3⟩
  · exact .inl h
  · exact .inr ⟨g, h1, h2, h3.fr (Fr.of_below hb) (fun h => h)⟩
theorem OP.mono {B C : Nat} {w : World} {A : Option Addr} {J : List Nat} (h : OP B w A J) (hb : C ≤ B) : OP C w A J := by
  rcases h with h | ⟨g, h1, h2, h3⟩
  · exact .inl h
  · exact .inr ⟨g, Nat.le_trans hb h1, h2, h3⟩
theorem num_op {B C : Nat} {V : World} {A A' : Option Addr} {c c' : Nat} {J : List Nat} (h : OP B V A J) (h' : OP C V A' J) (hJ : J.length ≤ 1000) : Calls Try.prog 15 #[.slice A J.length c, .slice A' J.length c'] V fun e w' => e = .returned (.bool true) ∧ Below V.heap.size V w' := by
  have := numbers_at A A' c c' (ints J) V h.lies h'.lies (by rw [ints_len]; omega)
  rw [ints_len] at this
  exact this.mono fun e w' ⟨he, m, hw⟩ => ⟨he, by rw [hw]; exact below_drewNg V m⟩
theorem OW.lt {B : Nat} {w : World} {A : Option Addr} {J : List Nat} (h : OW B w A J) : ∀ g, A = some ⟨g, 0, none⟩ → g < w.heap.size := by
  intro g hg
  rcases h with ⟨h, _⟩ | ⟨g', h1, h2, h3⟩
  · rw [h] at hg; cases hg
  · rw [h2] at hg
    cases hg
    exact h3.lt
/-- One number of a row is overwritten. -/
theorem step77 {V wc : World} {B C t : Nat} {A A' : Option Addr} {J J' : List Nat} (ht : t < J'.length) (h : OW B V A J') (h7 : OP C V A' J) (hlt : ∀ g, A = some ⟨g, 0, none⟩ → g < C) (hb : Below B wc V) (hB : B ≤ V.heap.size) :
    ∃ g, A = some ⟨g, 0, none⟩ ∧ V.cell? ⟨g, t, none⟩ = some (.int .u64 (at_ J' t : Int)) ∧ V.frozen? ⟨g, t, none⟩ = false ∧
      OW B (V.setCell ⟨g, t, none⟩ (.int .u64 77)) A (J'.set t 77) ∧ OP C (V.setCell ⟨g, t, none⟩ (.int .u64 77)) A' J ∧ Below B wc (V.setCell ⟨g, t, none⟩ (.int .u64 77)) := by
  rcases h with ⟨_, rfl⟩ | ⟨g, h1, h2, h3⟩
  · simp at ht
  · have hs := Fr.setCell V ⟨g, t, none⟩ (.int .u64 77)
    refine ⟨g, h2, h3.cell ht, h3.free ht, .inr ⟨g, h1, h2, h3.set t 77⟩, ?_, hb.trans (hs.below hB (fun i e => by have e' : i = g := e; omega))⟩
    rcases h7 with h | ⟨g', h4, h5, h6⟩
    · exact .inl h
    · have := hlt g h2
      exact .inr ⟨g', h4, h5, h6.fr hs (fun e => by have e' : g' = g := e; omega)⟩
/-- What Of, Rounds and the document's Run answer, one way or the other. -/
theorem three_of (n : Int) (L : List Ed) (k a p d : Int) (hlen : L.length ≤ 100000) : ∃ (J : List Nat) (M e0 : Int), J.length ≤ 1000 ∧
    (∀ (A : Option Addr) (c : Nat) (V : World), Lies enc2 2 V A L → Calls Try.prog 12 #[.int .i64 n, .slice A L.length c, rq k a p d] V fun e w' => ∃ A9 c9, e = .returned (.tuple #[.slice A9 J.length c9, .int .i64 e0]) ∧ OW V.heap.size w' A9 J ∧ Below V.heap.size V w') ∧
    (∀ (A : Option Addr) (c : Nat) (V : World), Lies enc2 2 V A L → Calls Try.prog 13 #[.int .i64 n, .slice A L.length c, rq k a p d] V fun e w' => e = .returned (.tuple #[.int .i64 M, .int .i64 e0]) ∧ Below V.heap.size V w') ∧
    (∀ (A : Option Addr) (c : Nat) (V : World), Lies enc2 2 V A L → Calls Try.prog 14 #[.int .i64 n, .slice A L.length c, rq k a p d] V fun e w' => ∃ A9 c9, e = .returned (.tuple #[.slice A9 J.length c9, .int .i64 M, .int .i64 e0]) ∧ OP V.heap.size w' A9 J ∧ Below V.heap.size V w') := by
  by_cases h : refC n L k a p = 0
  · obtain ⟨N, rfl, hn1, hn2, _⟩ := refC_zero h
    have hJ := job_len h
    refine ⟨(job N L k a).1, ((job N L k a).2 : Nat), 0, by omega, ?_, ?_, ?_⟩
    · intro A c V hL
      refine (ofr_ok A c N L k a p d V hL h).mono ?_
      rintro e w' ⟨g, rfl, hu, hg, hb⟩
      exact ⟨some ⟨g, 0, none⟩, N, by rw [hJ], .inr ⟨g, hg, rfl, hu⟩, hb⟩
    · intro A c V hL
      exact rnd_ok A c N L k a p d V hL h
    · intro A c V hL
      refine (docrun_ok A c N L k a p d V hL h).mono ?_
      rintro e w' ⟨g, c2, rfl, hu, hg, hb⟩
      exact ⟨some ⟨g, 0, none⟩, c2, by rw [hJ], .inr ⟨g, hg, rfl, hu⟩, hb⟩
  · refine ⟨[], 0, refC n L k a p, by simp, ?_, ?_, ?_⟩
    · intro A c V hL
      refine (ofr_no A c n L k a p d V hL hlen h).mono ?_
      rintro e w' ⟨rfl, hb⟩
      exact ⟨none, 0, rfl, .inl ⟨rfl, rfl⟩, hb⟩
    · intro A c V hL
      exact rnd_no A c n L k a p d V hL hlen h
    · intro A c V hL
      refine (docrun_no A c n L k a p d V hL hlen h).mono ?_
      rintro e w' ⟨rfl, hb⟩
      exact ⟨none, 0, rfl, .inl ⟨rfl, rfl⟩, hb⟩
set_option maxRecDepth 100000 in
set_option maxHeartbeats 8000000 in
theorem tell_at (A : Option Addr) (len cap : Nat) (n k a p d : Int) (L : List Ed) (w : World) (hl : len ≤ 200) (hlen : L.length = len) (hlc : len ≤ cap) (hcap : cap ≤ 9223372036854775807) (hA : A = none → cap = 0) (hL : Lies enc2 2 w A L) : Calls Try.prog 3 #[.int .i64 n, .slice A len cap, rq k a p d] w fun e w' => e = .returned (.bool true) ∧ Below w.heap.size w w' := by
  subst hlen
  obtain ⟨W, hW, hbl, q0, q1, q2, q3⟩ := box4 w k a p d
  have HBL := Lib.hid hbl
  have HL := Lib.hid (hL.below hbl (Nat.le_refl _))
  have HLen := Lib.hid hl
  have HL5 := Lib.hid (show L.length ≤ 500000 by omega)
  have h3 : ¬ (200 : Int) < L.length := by omega
  obtain ⟨i0, hi, hz0, hz1, hz2⟩ := info_parts info24
  obtain ⟨R2, hR2⟩ : ∃ R, L ++ [((-5 : Int), (0 : Int))] = R := ⟨_, rfl⟩
  have H2 := Lib.hid hR2
  have HRl := Lib.hid (show R2.length = L.length + 1 by rw [← hR2]; simp)
  have HR5 := Lib.hid (show R2.length ≤ 2000000 by rw [HRl.out]; omega)
  have HL2 := Lib.hid (show L.length ≤ 2000000 by omega)
  have HE := Lib.hid (show [] ++ L = L from rfl)
  have HKC := Lib.hid (fun (W2 : World) (hb : Below W.heap.size W W2) => And.intro (keep_cell q0 hb) (And.intro (keep_cell q1 hb) (And.intro (keep_cell q2 hb) (keep_cell q3 hb))))
  clear hL hR2 hbl
  go_enter Try.func3, Try.ntmps3
  go_upto_region 3 with (fail)
  go_cut [7] from 19 to 127 (fun s wx => ∃ A2 c2, s = .slice A2 (L.length + 1) c2 ∧ L.length + 1 ≤ c2 ∧ c2 ≤ 9223372036854775807 ∧ Lies enc2 2 wx A2 (L ++ [((-5 : Int), (0 : Int))]) ∧ Below W.heap.size W wx)
  case first =>
    rcases A with _ | ad
    · obtain rfl := hA rfl
      obtain rfl : L = [] := List.length_eq_zero_iff.1 (by omega)
      simp only [List.length_nil, Int.natCast_zero, Int.ofNat_zero] at HRl ⊢
      go_wp2_with (first
        | (at_builtin; refine wp_app rfl _ _ rfl W.heap.size [] [(-5, 0)] R2 H2.out (.slice (some ⟨W.heap.size, 0, none⟩) 0 1) rfl (HO0.out.alloc _) ⟨w0.heap.size, 0, none⟩ 1 1 rfl rfl (news_one (heap_alloc_new w0 _)) HR5.out (Nat.le_trans HB0.out.size (by simp)) ?_; intro A2 c2 w2 hr2 hf2; have HO2 := Lib.hid hr2; have hcc := row_capT hr2; have hcd : (0 : Int) ≤ (c2 : Int) := by { have := HRl.out; omega }; have HCC := Lib.hid hcc; have HB2 := Lib.hid ((HB0.out.alloc HB0.out.size (.cells #[.int .i64 (-5), .int .i64 0] 27)).trans (hf2.below (Nat.le_trans HB0.out.size (by simp)) (fun i e => (HO0.out.lt i e).1))); clear hr2 hf2 hcc)
        | (at_builtin; refine wp_app0 rfl _ _ rfl W.heap.size [] (.slice (some ⟨W.heap.size, 0, none⟩) 0 1) rfl HO0.out rfl ?_)
        | (at_make; refine wpList_make_own _ rfl _ _ 22 rfl W.heap.size 27 i0 _ 2 Try.underlying22 hi hz0 hz1 .i64 .i64 _ 1 rfl rfl (by first | rfl | omega) (by rw [hz2]; omega) (by unfold maxLen; omega) (Nat.le_refl _) ?_; intro w0 hown0 hgrow0; have HB0 := Lib.hid ((Fr.of_grownR hgrow0).below (Nat.le_refl _) (fun i e => by cases e)); have HO0 := Lib.hid hown0; clear hown0 hgrow0))
      go_meet
      exact ⟨A2, c2, by rw [HRl.out]; try rfl, by have := HCC.out; rw [HRl.out] at this; simpa using this.1, HCC.out.2, by rw [H2.out]; exact row_lies enc2_len HO2.out, HB2.out⟩
    · go_wp2_with (first
        | (at_builtin; refine wp_app rfl _ _ rfl W.heap.size L [(-5, 0)] R2 H2.out (.slice A1 L.length c1) rfl (HO1.out.alloc _) ⟨w1.heap.size, 0, none⟩ 1 1 rfl rfl (news_one (heap_alloc_new w1 _)) HR5.out (Nat.le_trans HB1.out.size (by simp)) ?_; intro A2 c2 w2 hr2 hf2; have HO2 := Lib.hid hr2; have hcc := row_capT hr2; have hcd : (L.length : Int) ≤ (c2 : Int) := by { have := HRl.out; omega }; have HCC := Lib.hid hcc; have HB2 := Lib.hid ((HB1.out.alloc HB1.out.size (.cells #[.int .i64 (-5), .int .i64 0] 27)).trans (hf2.below (Nat.le_trans HB1.out.size (by simp)) (fun i e => (HO1.out.lt i e).1))); clear hr2 hf2 hcc)
        | (at_builtin; refine wp_app rfl _ _ rfl W.heap.size [] L L HE.out (.slice (some ⟨W.heap.size, 0, none⟩) 0 (L.length + 1)) rfl HO0.out ad _ _ rfl rfl (lies_src HL.out HB0.out) HL2.out HB0.out.size ?_; intro A1 c1 w1 hr1 hf1; have HO1 := Lib.hid hr1; have HB1 := Lib.hid (HB0.out.trans (hf1.below HB0.out.size (fun i e => (HO0.out.lt i e).1))); clear hr1 hf1)
        | (at_make; refine wpList_make_own _ rfl _ _ 22 rfl W.heap.size 27 i0 _ 2 Try.underlying22 hi hz0 hz1 .i64 .i64 _ (L.length + 1) rfl rfl (by first | rfl | omega) (by rw [hz2]; omega) (by unfold maxLen; omega) (Nat.le_refl _) ?_; intro w0 hown0 hgrow0; have HB0 := Lib.hid ((Fr.of_grownR hgrow0).below (Nat.le_refl _) (fun i e => by cases e)); have HO0 := Lib.hid hown0; clear hown0 hgrow0))
      go_meet
      exact ⟨A2, c2, by rw [HRl.out]; try rfl, by have := HCC.out; rw [HRl.out] at this; exact this.1, HCC.out.2, by rw [H2.out]; exact row_lies enc2_len HO2.out, HB2.out⟩
  case rest =>
    obtain ⟨A2, c2, rfl, hc2, hc3, hLo, hb⟩ := hcut
    obtain ⟨g7, o7, rfl, lg, yz0, yz1⟩ := lies2 (j := L.length) (x1 := -5) (x2 := 0) hLo (by simp)
    have HLo := Lib.hid (lies_pre hLo)
    have HZ0 := Lib.hid yz0
    have LG := Lib.hid lg
    have BW0 := Lib.hid hb
    have g1 : (L.length : Int) ≤ (c2 : Int) := by omega
    have g2 : (L.length : Int) < (L.length : Int) + 1 := by omega
    have t0 : ((-5 : Int) == -5) = true := by decide
    obtain ⟨J, M, e0, hJ, h12, h13, h14⟩ := three_of n L k a p d (by omega)
    have HJ := Lib.hid hJ
    have H12 := Lib.hid h12
    have H13 := Lib.hid h13
    have H14 := Lib.hid h14
    have t1 : (e0 != e0) = false := by simp
    have t2 : (M != M) = false := by simp
    obtain ⟨z0, z1, z2, z3⟩ := HKC.out wc hb
    clear hLo yz0 yz1 lg hb hi hz0 hz1 hz2 hJ h12 h13 h14 q0 q1 q2 q3 hc2 hl hlc hcap hA
    go_upto_region 4 with (fail)
    go_region_held3 (fun wx => wx.cell? ⟨w.heap.size, 0, none⟩ = some (.int .i64 k) ∧ wx.cell? ⟨w.heap.size, 1, none⟩ = some (.int .i64 a) ∧ wx.cell? ⟨w.heap.size, 2, none⟩ = some (.int .i64 p) ∧ wx.cell? ⟨w.heap.size, 3, none⟩ = some (.int .i64 d))
      (first | exact ⟨z0, z1, z2, z3⟩ | exact HQ5.out)
      ((first
        | (go_at_call 12; refine (H12.out _ _ _ (HLo.out.below (below_drewNg wc 1) (Nat.le_refl _))).mono ?_; rintro e w5 ⟨A5, c5, rfl, hu, hb5⟩; have HU := Lib.hid hu; have HB5 := Lib.hid ((below_drewNg wc 1).trans (hb5.mono (below_drewNg wc 1).size)); have HQ5 := Lib.hid (HKC.out w5 (BW0.out.trans (HB5.out.mono BW0.out.size))); clear hu hb5)))
    clear z0 z1 z2 z3
    obtain ⟨z0, z1, z2, z3⟩ := HQ5.out
    go_upto_region 5 with (fail)
    go_region_held3 (fun wx => wx.cell? ⟨w.heap.size, 0, none⟩ = some (.int .i64 k) ∧ wx.cell? ⟨w.heap.size, 1, none⟩ = some (.int .i64 a) ∧ wx.cell? ⟨w.heap.size, 2, none⟩ = some (.int .i64 p) ∧ wx.cell? ⟨w.heap.size, 3, none⟩ = some (.int .i64 d))
      (first | exact ⟨z0, z1, z2, z3⟩ | exact HQ6.out)
      ((first
        | (go_at_call 13; refine (H13.out _ _ _ (HLo.out.below (HB5.out.trans ((below_drewNg w5 1).mono HB5.out.size)) (Nat.le_refl _))).mono ?_; rintro e w6 ⟨rfl, hb6⟩; have HB56 := Lib.hid ((below_drewNg w5 1).trans (hb6.mono (below_drewNg w5 1).size)); have HB6 := Lib.hid (HB5.out.trans (HB56.out.mono HB5.out.size)); have HQ6 := Lib.hid (HKC.out w6 (BW0.out.trans (HB6.out.mono BW0.out.size))); clear hb6)))
    clear z0 z1 z2 z3
    obtain ⟨z0, z1, z2, z3⟩ := HQ6.out
    go_upto_region 7 with (go_at_call 14; refine (H14.out _ _ _ (HL.out.below (BW0.out.trans (HB6.out.mono BW0.out.size)) (Nat.le_refl _))).mono ?_; rintro e w7 ⟨A7, c7, rfl, hu, hb7⟩; have HP7 := Lib.hid hu; have HB7 := Lib.hid (HB6.out.trans (hb7.mono HB6.out.size)); have HB67 := Lib.hid hb7; clear hu hb7)
    have HU7 := Lib.hid ((HU.out.to HB56.out).to HB67.out)
    have HNM := Lib.hid (num_op (c := c5) (c' := c7) HU7.out.op HP7.out HJ.out)
    go_upto_region 9 with (go_at_call 15; refine HNM.out.mono ?_; rintro e w8 ⟨rfl, hb8⟩; have HB8 := Lib.hid (HB7.out.trans (hb8.mono HB7.out.size)); have HB78 := Lib.hid hb8; clear hb8)
    have HU8 := Lib.hid (HU7.out.to HB78.out)
    have HP8 := Lib.hid (HP7.out.to HB78.out)
    clear z0 z1 z2 z3
    go_wp2
    have HU9 := Lib.hid (show OW wc.heap.size w8 A5 J from HU8.out)
    have HGL := Lib.hid (show ∀ g, A5 = some ⟨g, 0, none⟩ → g < w6.heap.size from fun g hg => Nat.lt_of_lt_of_le (HU.out.lt g hg) HB56.out.size)
    go_loopw [15] (fun i wi => ∃ (t : Nat) (J' : List Nat), i = .int .i64 (t : Int) ∧ t ≤ J.length ∧ J'.length = J.length ∧ OW wc.heap.size wi A5 J' ∧ OP w6.heap.size wi A7 J ∧ Below wc.heap.size wc wi) (fun i _ => J.length - (intOf i).toNat)
    case atStart => exact ⟨0, J, rfl, by omega, rfl, HU9.out, HP8.out, HB8.out⟩
    case round =>
      obtain ⟨t, J', rfl, ht, hj, m1, m2, m3⟩ := hrel
      by_cases htn : t < J.length
      · obtain ⟨g, hg, d0, f0, r1, r2, r3⟩ := step77 (t := t) (by rw [hj]; exact htn) m1 m2 HGL.out m3 m3.size
        have R1 := Lib.hid r1
        have R2 := Lib.hid r2
        have R3 := Lib.hid r3
        have HJ' := Lib.hid (show (J'.set t 77).length = J.length by rw [List.length_set, hj])
        have k1 : (t : Int) < (J.length : Int) := by omega
        have k2 : (t : Int) < 1000 := by have := HJ.out; omega
        have HT := Lib.hid htn
        have HG := Lib.hid hg
        subst hg
        clear r1 r2 r3 m1 m2 m3 hj htn ht
        go_wp2
        go_roundw
        case rel => exact ⟨t + 1, J'.set t 77, by go_num, HT.out, HJ'.out, R1.out, R2.out, R3.out⟩
        case measure => have := HT.out; simp [intOf]; omega
      · obtain rfl : t = J.length := by omega
        have M2 := Lib.hid m2
        have M3 := Lib.hid m3
        clear m1 m2 m3 hj htn ht
        obtain ⟨w9, hw9⟩ : ∃ V, V = wr := ⟨_, rfl⟩
        subst hw9
        have HLm := Lib.hid (show Lies enc2 2 w9 (some ⟨g7, o7, none⟩) L from HLo.out.below M3.out (Nat.le_refl _))
        have HLl := Lib.hid (show Lies enc2 2 w9 A L from HL.out.below (BW0.out.trans (M3.out.mono BW0.out.size)) (Nat.le_refl _))
        have hz := M3.out.cell (p := ⟨g7, o7 + L.length * 2, none⟩) LG.out
        have HZ9 := Lib.hid (hz.trans HZ0.out)
        have HBW9 := Lib.hid (show Below W.heap.size W w9 from BW0.out.trans (M3.out.mono BW0.out.size))
        clear hz
        go_wp2
        go_loopw [16] (fun i wi => ∃ (t m : Nat), i = .int .i64 (t : Int) ∧ t ≤ L.length ∧ wi = w9.drewN m) (fun i _ => L.length - (intOf i).toNat)
        case atStart => exact ⟨0, 0, rfl, by omega, rfl⟩
        case round =>
          obtain ⟨t, m, rfl, ht, rfl⟩ := hrel
          by_cases hlt : t < L.length
          · obtain ⟨⟨x1, x2⟩, hx⟩ : ∃ p, L[t]? = some p := ⟨L[t], List.getElem?_eq_getElem _⟩
            obtain ⟨b1, o1, e1, hb1, p0, p1⟩ := lies2 HLm.out hx
            cases e1
            obtain ⟨b2, o2, rfl, hb2, y0, y1⟩ := lies2 HLl.out hx
            have neq := neq24 x1 x2 x1 x2
            rw [show decide (x1 = x1 ∧ x2 = x2) = true by simp] at neq
            have k1 : (t : Int) < (L.length : Int) := by omega
            have k2 : (t : Int) < (L.length : Int) + 1 := by omega
            have k3 : (t : Int) < 1000 := by have := HLen.out; omega
            have HT := Lib.hid hlt
            clear hx hb1 hb2 ht hlt
            go_wp2
            go_quiet (fail)
            go_wp2
            go_roundw
            case rel => exact ⟨t + 1, _, by go_num, HT.out, rfl⟩
            case measure => have := HT.out; simp [intOf]; omega
          · obtain rfl : t = L.length := by omega
            clear ht hlt
            obtain ⟨w10, hw10⟩ : ∃ V, w9.drewN m = V := ⟨_, rfl⟩
            have HB9 := Lib.hid (show Below w9.heap.size w9 w10 from hw10 ▸ below_drewNg w9 m)
            rw [hw10]
            clear hw10
            obtain ⟨z0, z1, z2, z3⟩ := HKC.out w10 (HBW9.out.trans (HB9.out.mono HBW9.out.size))
            go_upto_region 18 with (fail)
            go_region_held3 (fun wx => wx.cell? ⟨w.heap.size, 0, none⟩ = some (.int .i64 k) ∧ wx.cell? ⟨w.heap.size, 1, none⟩ = some (.int .i64 a) ∧ wx.cell? ⟨w.heap.size, 2, none⟩ = some (.int .i64 p) ∧ wx.cell? ⟨w.heap.size, 3, none⟩ = some (.int .i64 d))
              (first | exact ⟨z0, z1, z2, z3⟩ | exact HQ11.out)
              ((first
                | (go_at_call 12; refine (H12.out _ _ _ (HLm.out.below (HB9.out.trans ((below_drewNg w10 1).mono HB9.out.size)) (Nat.le_refl _))).mono ?_; rintro e w11 ⟨A11, c11, rfl, hu, hb11⟩; have HU11 := Lib.hid hu; have HB11 := Lib.hid (HB9.out.trans (((below_drewNg w10 1).trans (hb11.mono (below_drewNg w10 1).size)).mono HB9.out.size)); have HQ11 := Lib.hid (HKC.out w11 (HBW9.out.trans (HB11.out.mono HBW9.out.size))); clear hu hb11)))
            have HP11 := Lib.hid (M2.out.to HB11.out)
            have HN2 := Lib.hid (num_op (c := c11) (c' := c7) HU11.out.op HP11.out HJ.out)
            have HR := Lib.hid (fun V => round_at V)
            clear z0 z1 z2 z3
            have HBc := Lib.hid (show Below wc.heap.size wc w11 from M3.out.trans (HB11.out.mono M3.out.size))
            go_wp2_with (first
              | (have _ := HB12; go_at_call 11; refine (HR.out _).mono ?_; rintro e w13 ⟨rfl, hb13⟩; have HB13 := Lib.hid (HB12.out.trans (hb13.mono HB12.out.size)); clear hb13)
              | (go_at_call 15; refine HN2.out.mono ?_; rintro e w12 ⟨rfl, hb12⟩; have HB12 := Lib.hid (HBc.out.trans (hb12.mono HBc.out.size)); have z0 := (HB12.out.cell (p := ⟨g7, o7 + L.length * 2, none⟩) LG.out).trans HZ0.out; clear hb12))
            go_ret
            exact ⟨rfl, HBL.out.trans ((BW0.out.trans (HB13.out.mono BW0.out.size)).mono HBL.out.size)⟩
set_option maxRecDepth 100000 in
set_option maxHeartbeats 4000000 in
theorem tell_big (A : Option Addr) (len cap : Nat) (n k a p d : Int) (w : World) (hl : 200 < len) : Calls Try.prog 3 #[.int .i64 n, .slice A len cap, rq k a p d] w fun e w' => e = .returned (.bool true) ∧ Below w.heap.size w w' := by
  obtain ⟨W, hW, hbl, q0, q1, q2, q3⟩ := box4 w k a p d
  have HB := Lib.hid hbl
  have HR := Lib.hid (round_at W)
  have x5 : (200 : Int) < (len : Int) := by omega
  clear hbl
  go_enter Try.func3, Try.ntmps3
  go_wp2_with (go_at_call 11; refine HR.out.mono ?_; rintro e w9 ⟨rfl, hb9⟩; have HB9 := Lib.hid hb9; clear hb9)
  go_ret
  exact ⟨rfl, HB.out.trans (HB9.out.mono HB.out.size)⟩
theorem tell_all (A : Option Addr) (len cap : Nat) (n k a p d : Int) (L : List Ed) (w : World) (hlen : L.length = len) (hlc : len ≤ cap) (hcap : cap ≤ 9223372036854775807) (hA : A = none → cap = 0) (hL : Lies enc2 2 w A L) : Calls Try.prog 3 #[.int .i64 n, .slice A len cap, rq k a p d] w fun e w' => e = .returned (.bool true) ∧ Below w.heap.size w w' := by
  by_cases h : len ≤ 200
  · exact tell_at A len cap n k a p d L w h hlen hlc hcap hA hL
  · exact tell_big A len cap n k a p d w (by omega)
end Go.Proofs.Ytpmgkmodpneiiaa.E
