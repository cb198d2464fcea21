/- TruthDrawn: the law walked. -/
import Derived.Test.YtpmgkmodpneiiaaRnj
import Derived.Test.YtpmgkmodpneiiaaAsk
namespace Go.Proofs.Ytpmgkmodpneiiaa.E
open Go.RowKit Go.Sort Go.Shelf
open Go.Proofs.Ytpmgkmodpneiiaa.Ma
set_option linter.unusedVariables false
set_option linter.unusedSimpArgs false
theorem job_len {n : Nat} {L : List Ed} {k a p : Int} (h : refC n L k a p = 0) : (job n L k a).1.length = n := by
  obtain ⟨N, hN, hn1, hn2, hE, _, _, hck, hlen⟩ := refC_zero h
  obtain rfl : n = N := by omega
  have hal := (ofAll_row hE).1
  rcases arg_zero hck with ⟨rfl, ha, hb⟩ | ⟨rfl, ha, hb⟩ | ⟨rfl, rfl⟩ | ⟨rfl, ha, hb⟩
  · obtain ⟨s, rfl⟩ : ∃ s : Nat, a = (s : Int) := ⟨a.toNat, by omega⟩
    have hd := dst_bfs (rows_out hE) (ofOut_row hE).1.symm hn2 (show s < n by omega)
    have hj : (job n L 1 (s : Int)).1 = bfs (ofOut n L) s := by unfold job; rw [if_pos rfl, Int.toNat_natCast]
    rw [hj]
    exact hd.len
  · have hj : (job n L 2 a).1 = ranks (ofOut n L) a.toNat := by unfold job; rw [if_neg (by decide), if_pos rfl]
    rw [hj, ranks_len, (ofOut_row hE).1]
  · have hj : (job n L 3 0).1 = (labs (ofAll n L)).1 := by unfold job; rw [if_neg (by decide), if_neg (by decide), if_pos rfl]
    rw [hj]
    unfold labs
    rw [labTo_len, hal]
  · obtain ⟨s, rfl⟩ : ∃ s : Nat, a = (s : Int) := ⟨a.toNat, by omega⟩
    obtain ⟨k1, q1, _⟩ := roundsC (n := n) (a := s) hE (by omega)
    have hj : (job n L 4 (s : Int)).1 = iterC s n L k1 := by unfold job; rw [if_neg (by decide), if_neg (by decide), if_neg (by decide), Int.toNat_natCast, q1]
    rw [hj]
    exact (iterC_bits hE (by omega) k1).1
theorem num_p {w : World} {g b n c : Nat} {M : List Nat} (h : UB w g M) (hb : PB w b M) (hm : M.length = n) (hn : n ≤ 1000) : Calls Try.prog 15 #[.slice (some ⟨g, 0, none⟩) n n, .slice (some ⟨b, 0, none⟩) n c] w fun e w' => e = .returned (.bool true) ∧ Below w.heap.size w w' := by
  have := numbers_at (some ⟨g, 0, none⟩) (some ⟨b, 0, none⟩) n c (ints M) w h.lies hb.lies (by rw [ints_len]; omega)
  rw [ints_len, hm] at this
  exact this.mono fun e w' ⟨he, m, hw⟩ => ⟨he, by rw [hw]; exact below_drewNg w m⟩
set_option maxRecDepth 100000 in
set_option maxHeartbeats 4000000 in
theorem drwlaw_at (A : Option Addr) (c : Nat) (N K0 A0 P0 D0 : Int) (P : List Ed) (w : World) (hN : 0 ≤ N ∧ N ≤ 255) (hK : 0 ≤ K0 ∧ K0 ≤ 255) (hA : 0 ≤ A0 ∧ A0 ≤ 255) (hP : 0 ≤ P0 ∧ P0 ≤ 255) (hD : 0 ≤ D0 ∧ D0 ≤ 65535) (hL : Lies enc8 2 w A P) (hb8 : ∀ p ∈ P, (0 ≤ p.1 ∧ p.1 ≤ 255) ∧ 0 ≤ p.2 ∧ p.2 ≤ 255) (hlen : P.length ≤ 300) :
    Calls Try.prog 4 #[.agg #[.int .u8 N, .slice A P.length c], .agg #[.int .u8 K0, .int .u8 A0, .int .u8 P0, .int .u16 D0]] w fun e w' => e = .returned (.bool true) ∧ Below w.heap.size w w' := by
  obtain ⟨W1, hW1, gW1, hb1, hs1⟩ := box_new w (.cells #[.int .u8 N, .slice A P.length c] 41 (0, 0))
  obtain ⟨W, hW, gW, hb2, hs2, v0, v1, v2, v3⟩ := box4n W1 (.int .u8 K0) (.int .u8 A0) (.int .u8 P0) (.int .u16 D0) 44
  have hbl : Below w.heap.size w W := hb1.trans (hb2.mono hb1.size)
  have b0 : W.cell? ⟨w.heap.size, 0, none⟩ = some (.int .u8 N) := keep_cell (cell_of_heap (i := 0) gW1 rfl) hb2
  have b1 : W.cell? ⟨w.heap.size, 1, none⟩ = some (.slice A P.length c) := keep_cell (cell_of_heap (i := 1) gW1 rfl) hb2
  have HB := Lib.hid hbl
  have HMA := made_at A c N P W hN (hL.below hbl (Nat.le_refl _)) hb8 hlen
  have hg := made_good (N := N) hlen
  have hm := madeN_in (N := N)
  obtain ⟨n, hn⟩ : ∃ n : Nat, madeN N = (n : Int) := ⟨(madeN N).toNat, by omega⟩
  obtain ⟨L, hLL⟩ : ∃ L, madeL N P = L := ⟨_, rfl⟩
  rw [hn, hLL] at HMA
  rw [hn, hLL, Int.toNat_natCast] at hg
  have HM := Lib.hid HMA
  have HG := Lib.hid hg
  have hn1 := hg.n1
  have hn2 := hg.n2
  have HAK := Lib.hid (fun V => ask_at K0 A0 P0 D0 n V hK hA hP hD ⟨hn1, hn2⟩)
  have HKV := Lib.hid (fun V (hV : Below W.heap.size W V) => And.intro (keep_cell v0 hV) (And.intro (keep_cell v1 hV) (And.intro (keep_cell v2 hV) (keep_cell v3 hV))))
  have HOF := Lib.hid (fun (A' : Option Addr) (c' : Nat) (k a p d : Int) (hc : chk k a p n = 0) (V : World) (h : Lies enc2 2 V A' L) => ofr_ok A' c' n L k a p d V h (by rw [hg.ref]; exact hc))
  have HRO := Lib.hid (fun (A' : Option Addr) (c' : Nat) (k a p d : Int) (hc : chk k a p n = 0) (V : World) (h : Lies enc2 2 V A' L) => rnd_ok A' c' n L k a p d V h (by rw [hg.ref]; exact hc))
  have HRU := Lib.hid (fun (A' : Option Addr) (c' : Nat) (k a p d : Int) (hc : chk k a p n = 0) (V : World) (h : Lies enc2 2 V A' L) => docrun_ok A' c' n L k a p d V h (by rw [hg.ref]; exact hc))
  have HJL := Lib.hid (fun (k a p : Int) (hc : chk k a p n = 0) => job_len (k := k) (a := a) (p := p) (n := n) (L := L) (by rw [hg.ref]; exact hc))
  have HR := Lib.hid (fun V => round_at V)
  have x4 : ¬ ((300 : Int) < (P.length : Int)) := by omega
  have x5 : ¬ ((P.length : Int) > 300) := by omega
  have x6 : decide ((P.length : Int) > 300) = false := decide_eq_false x5
  have HN12 := Lib.hid (And.intro hn1 hn2)
  clear hb8 hlen hL hbl gW hn hLL hg hm HMA hN hn1 hn2 hb1 hs1 hb2 hs2 gW1 hK hA hP hD
  go_enter Try.func4, Try.ntmps4
  go_upto_region 5 with (first
    | (have _ := HL2; go_at_call 17; refine (HAK.out _).mono ?_; rintro e w3 ⟨k, a, p, d, rfl, hc, hb3⟩; have HCH := Lib.hid hc; have HB3 := Lib.hid hb3; clear hc hb3)
    | (go_at_call 16; refine HM.out.mono ?_; rintro e w2 ⟨A', c', rfl, hl2, hb2⟩; have HL2 := Lib.hid hl2; have HB2 := Lib.hid hb2; obtain ⟨u0, u1, u2, u3⟩ := HKV.out w2 hb2; clear hl2 hb2))
  obtain ⟨w4, hw4, gw4, hb4, hs4, z0, z1, z2, z3⟩ := box4n w3 (.int .i64 k) (.int .i64 a) (.int .i64 p) (.int .i64 d) 24
  rw [hw4]
  obtain ⟨rb, hrb⟩ : ∃ b, w3.heap.size = b := ⟨_, rfl⟩
  have HB34 := Lib.hid hb4
  rw [hrb] at z0 z1 z2 z3 ⊢
  have HB24 := Lib.hid (show Below w2.heap.size w2 w4 from HB3.out.trans (HB34.out.mono HB3.out.size))
  have HZ := Lib.hid (fun V (hV : Below w4.heap.size w4 V) => And.intro (keep_cell z0 hV) (And.intro (keep_cell z1 hV) (And.intro (keep_cell z2 hV) (keep_cell z3 hV))))
  have HL4 := Lib.hid (HL2.out.below HB24.out (Nat.le_refl _))
  have HBW4 := Lib.hid (show Below W.heap.size W w4 from HB2.out.trans (HB24.out.mono HB2.out.size))
  have hjl := HJL.out k a p HCH.out
  have h1 := HOF.out A' c' k a p d HCH.out
  have h2 := HRO.out A' c' k a p d HCH.out
  have h3 := HRU.out A' c' k a p d HCH.out
  obtain ⟨M, hM⟩ : ∃ x, (job n L k a).2 = x := ⟨_, rfl⟩
  obtain ⟨J, hJ⟩ : ∃ x, (job n L k a).1 = x := ⟨_, rfl⟩
  rw [hM] at h2 h3
  rw [hJ] at h1 h3 hjl
  have H1 := Lib.hid h1
  have H2 := Lib.hid h2
  have H3 := Lib.hid h3
  have HJN := Lib.hid hjl
  clear hw4 gw4 hb4 hs4 hrb h1 h2 h3 hM hJ hjl u0 u1 u2 u3
  go_upto_region 6 with (go_at_call 12; refine (H1.out _ HL4.out).mono ?_; rintro e w5 ⟨g5, rfl, hu, hg, hb5⟩; have HU := Lib.hid hu; have HB5 := Lib.hid hb5; clear hu hg hb5)
  obtain ⟨y0, y1, y2, y3⟩ := HZ.out w5 HB5.out
  clear z0 z1 z2 z3
  go_upto_region 7 with (go_at_call 13; refine (H2.out _ (HL4.out.below HB5.out (Nat.le_refl _))).mono ?_; rintro e w6 ⟨rfl, hb6⟩; have HB6 := Lib.hid (HB5.out.trans (hb6.mono HB5.out.size)); have HB56 := Lib.hid hb6; clear hb6)
  obtain ⟨z0, z1, z2, z3⟩ := HZ.out w6 HB6.out
  clear y0 y1 y2 y3
  go_upto_region 8 with (go_at_call 14; refine (H3.out _ (HL4.out.below HB6.out (Nat.le_refl _))).mono ?_; rintro e w7 ⟨g7, c7, rfl, hu, hg, hb7⟩; have HP7 := Lib.hid hu; have HB7 := Lib.hid (HB6.out.trans (hb7.mono HB6.out.size)); have HB67 := Lib.hid hb7; clear hu hg hb7)
  have HU7 := Lib.hid (show UB w7 g5 J from (HU.out.fr (Fr.of_below HB56.out) (fun h => h)).fr (Fr.of_below HB67.out) (fun h => h))
  have HNM := Lib.hid (num_p (c := c7) HU7.out HP7.out HJN.out (by have := HN12.out.2; omega))
  have HBW7 := Lib.hid (show Below W.heap.size W w7 from HBW4.out.trans (HB7.out.mono HBW4.out.size))
  have t1 : ((M : Int) == (M : Int)) = true := by simp
  clear z0 z1 z2 z3
  go_wp2_with (first
    | (have _ := HB8; go_at_call 11; refine (HR.out _).mono ?_; rintro e w9 ⟨rfl, hb9⟩; have HB9 := Lib.hid (HB8.out.trans (hb9.mono HB8.out.size)); clear hb9)
    | (go_at_call 15; refine HNM.out.mono ?_; rintro e w8 ⟨rfl, hb8⟩; have HB8 := Lib.hid hb8; clear hb8))
  go_ret
  exact ⟨rfl, HB.out.trans ((HBW7.out.trans (HB9.out.mono HBW7.out.size)).mono HB.out.size)⟩
set_option maxRecDepth 100000 in
set_option maxHeartbeats 4000000 in
theorem drw_big (A : Option Addr) (c : Nat) (N K0 A0 P0 D0 : Int) (P : List Ed) (w : World) (hlen : 300 < P.length) :
    Calls Try.prog 4 #[.agg #[.int .u8 N, .slice A P.length c], .agg #[.int .u8 K0, .int .u8 A0, .int .u8 P0, .int .u16 D0]] w fun e w' => e = .returned (.bool true) ∧ Below w.heap.size w w' := by
  obtain ⟨W1, hW1, gW1, hb1, hs1⟩ := box_new w (.cells #[.int .u8 N, .slice A P.length c] 41 (0, 0))
  obtain ⟨W, hW, gW, hb2, hs2, v0, v1, v2, v3⟩ := box4n W1 (.int .u8 K0) (.int .u8 A0) (.int .u8 P0) (.int .u16 D0) 44
  have b1 : W.cell? ⟨w.heap.size, 1, none⟩ = some (.slice A P.length c) := keep_cell (cell_of_heap (i := 1) gW1 rfl) hb2
  have HB := Lib.hid (show Below w.heap.size w W from hb1.trans (hb2.mono hb1.size))
  have HR := Lib.hid (round_at W)
  have x4 : (300 : Int) < (P.length : Int) := by omega
  have x5 : (P.length : Int) > 300 := x4
  have x6 : decide ((P.length : Int) > 300) = true := decide_eq_true x5
  clear gW gW1 hb1 hs1 hb2 hs2 v0 v1 v2 v3 hlen
  go_enter Try.func4, Try.ntmps4
  go_wp2_with (go_at_call 11; refine HR.out.mono ?_; rintro e w9 ⟨rfl, hb9⟩; have HB9 := Lib.hid hb9; clear hb9)
  go_ret
  exact ⟨rfl, HB.out.trans (HB9.out.mono HB.out.size)⟩
theorem drw_all (A : Option Addr) (len c : Nat) (N K0 A0 P0 D0 : Int) (P : List Ed) (w : World) (hP' : P.length = len) (hN : 0 ≤ N ∧ N ≤ 255) (hK : 0 ≤ K0 ∧ K0 ≤ 255) (hA : 0 ≤ A0 ∧ A0 ≤ 255) (hP : 0 ≤ P0 ∧ P0 ≤ 255) (hD : 0 ≤ D0 ∧ D0 ≤ 65535) (hL : Lies enc8 2 w A P) (hb8 : ∀ p ∈ P, (0 ≤ p.1 ∧ p.1 ≤ 255) ∧ 0 ≤ p.2 ∧ p.2 ≤ 255) :
    Calls Try.prog 4 #[.agg #[.int .u8 N, .slice A len c], .agg #[.int .u8 K0, .int .u8 A0, .int .u8 P0, .int .u16 D0]] w fun e w' => e = .returned (.bool true) ∧ Below w.heap.size w w' := by
  subst hP'
  by_cases h : P.length ≤ 300
  · exact drwlaw_at A c N K0 A0 P0 D0 P w hN hK hA hP hD hL hb8 h
  · exact drw_big A c N K0 A0 P0 D0 P w (by omega)
end Go.Proofs.Ytpmgkmodpneiiaa.E
