/- run: a job that may be. Conditions: those that each theorem names. -/
import Derived.Test.YtpmgkmodpneiiaaRun
namespace Go.Proofs.Ytpmgkmodpneiiaa.E
open Go.RowKit Go.Sort Go.Shelf
open Go.Proofs.Ytpmgkmodpneiiaa.Ma
set_option linter.unusedVariables false
set_option linter.unusedSimpArgs false
theorem rows_short {n : Nat} {L : List Ed} (hL : L.length ≤ 4096) : (∀ r ∈ ofOut n L, r.length ≤ 100000) ∧ ∀ r ∈ ofAll n L, r.length ≤ 100000 :=
  ⟨fun r hr => by have := out_short n L r hr; omega, fun r hr => by have := all_short n L r hr; omega⟩
set_option maxRecDepth 100000 in
set_option maxHeartbeats 4000000 in
theorem run_ok (A : Option Addr) (c n : Nat) (L : List Ed) (k a p d : Int) (w : World) (hL : Lies enc2 2 w A L) (h : refC n L k a p = 0) :
    Calls Try.prog 23 #[.int .i64 (n : Int), .slice A L.length c, rq k a p d] w fun e w' => ∃ g, e = .returned (.tuple #[.slice (some ⟨g, 0, none⟩) n n, .int .i64 ((job n L k a).2 : Nat), .int .i64 0]) ∧ UB w' g (job n L k a).1 ∧ w.heap.size ≤ g ∧ Below w.heap.size w w' := by
  obtain ⟨N, hN, hn1, hn2, hE, hc1, hc2, hck, hlen⟩ := refC_zero h
  obtain rfl : n = N := by omega
  have harg := arg_zero hck
  obtain ⟨W, hW, hbl, c0, c1, c2, c3⟩ := box4 w k a p d
  have HB := Lib.hid hbl
  have HLW := Lib.hid (hL.below hbl (Nat.le_refl _))
  have HNO := normal_at A c n L W (hL.below hbl (Nat.le_refl _)) (by omega)
  rw [hc1, hc2] at HNO
  have HN := Lib.hid HNO
  have HCK := fun V => chk_at k a p d (n : Int) V
  rw [hck] at HCK
  have HCH := Lib.hid HCK
  have HKC := Lib.hid (fun (W2 : World) (hb : Below W.heap.size W W2) => And.intro (keep_cell c0 hb) (And.intro (keep_cell c1 hb) (And.intro (keep_cell c2 hb) (keep_cell c3 hb))))
  have hdec : decide (L = L) = true := decide_eq_true rfl
  have HEQ := Lib.hid (fun (c' : Nat) (B : Option Addr) (V : World) (h1 : Lies enc2 2 V A L) (h2 : Lies enc2 2 V B L) => hdec ▸ equal_at A B c c' L L V h1 h2 (by omega) (by omega))
  have HOF := Lib.hid (fun (V : World) (h1 : Lies enc2 2 V A L) => of_at A c n L V h1 (by omega) hn2 (fun e he => hE e he))
  have HEE := Lib.hid hE
  have HARG := Lib.hid harg
  have HSH := Lib.hid (rows_short (n := n) hlen)
  have HLEN := Lib.hid (show L.length ≤ 100000 by omega)
  have HN12 := Lib.hid (And.intro hn1 hn2)
  clear hL h hN hn1 hn2 hE hc1 hc2 hck hlen harg hbl HNO HCK hdec
  go_enter Try.func23, Try.ntmps23
  go_upto_region 9 with (first | (have _ := HB4; go_at_call 30; refine (HOF.out _ HL9.out).mono ?_; rintro e w5 ⟨gp, gq, V, U, rfl, hg1, hg2, hb5⟩; have HG1 := Lib.hid hg1; have HG2 := Lib.hid hg2; have HB5 := Lib.hid hb5; clear hg1 hg2 hb5) | (have _ := HB3; go_at_call 19; refine (HCH.out _).mono ?_; rintro e w4 ⟨rfl, hb4⟩; have HB4 := Lib.hid (HB3.out.trans (hb4.mono HB3.out.size)); have HL9 := Lib.hid (HL8.out.below hb4 (Nat.le_refl _)); clear hb4) | (have _ := HR; go_at_call 29; refine (HEQ.out c9 A9 _ HLA.out HM9.out).mono ?_; rintro e w3 ⟨rfl, hb3⟩; have HB3 := Lib.hid (HB2.out.trans (hb3.mono HB2.out.size)); have HL8 := Lib.hid (HLA.out.below hb3 (Nat.le_refl _)); obtain ⟨z0, z1, z2, z3⟩ := HKC.out w3 HB3.out; clear hb3) | (go_at_call 28; refine HN.out.mono ?_; rintro e w2 ⟨v', rfl, hr, hb2⟩; have HR := Lib.hid hr; have HB2 := Lib.hid hb2; obtain ⟨A9, c9, rfl, _, _⟩ := row_open enc2_len hr; have HLA := Lib.hid (HLW.out.below hb2 (Nat.le_refl _)); have HM9 := Lib.hid (row_lies enc2_len hr); clear hr hb2))
  obtain ⟨w6, hw6, gw6, hb6, hs6⟩ := box_new w5 (.cells #[.int .i64 (n : Int), .slice (some ⟨gp, 0, none⟩) n n, .slice (some ⟨gq, 0, none⟩) n n] 66 (0, 0))
  rw [hw6]
  have b0 : w6.cell? ⟨w5.heap.size, 0, none⟩ = some (.int .i64 (n : Int)) := cell_of_heap (i := 0) gw6 rfl
  have b1 : w6.cell? ⟨w5.heap.size, 1, none⟩ = some (.slice (some ⟨gp, 0, none⟩) n n) := cell_of_heap (i := 1) gw6 rfl
  have b2 : w6.cell? ⟨w5.heap.size, 2, none⟩ = some (.slice (some ⟨gq, 0, none⟩) n n) := cell_of_heap (i := 2) gw6 rfl
  have HB6 := Lib.hid (show Below W.heap.size W w6 from (HB4.out.trans (HB5.out.mono HB4.out.size)).trans (hb6.mono (HB4.out.trans (HB5.out.mono HB4.out.size)).size))
  have HBW6 := Lib.hid (show Below w.heap.size w w6 from HB.out.trans (HB6.out.mono HB.out.size))
  have HP := Lib.hid (HG1.out.below hb6)
  have HQ := Lib.hid (HG2.out.below hb6)
  obtain ⟨y0, y1, y2, y3⟩ := HKC.out w6 HB6.out
  have HLO := Lib.hid (show n = (ofOut n L).length from (ofOut_row HEE.out).1.symm)
  have HLA2 := Lib.hid (show n = (ofAll n L).length from (ofAll_row HEE.out).1.symm)
  have HS6 := Lib.hid (show ∀ W', Below w6.heap.size w6 W' → W'.cell? ⟨w5.heap.size, 0, none⟩ = some (.int .i64 (n : Int)) ∧ W'.cell? ⟨w5.heap.size, 1, none⟩ = some (.slice (some ⟨gp, 0, none⟩) n n) ∧ W'.cell? ⟨w5.heap.size, 2, none⟩ = some (.slice (some ⟨gq, 0, none⟩) n n) ∧ W'.cell? ⟨w.heap.size, 1, none⟩ = some (.int .i64 a) from
    fun W' h => ⟨keep_cell b0 h, keep_cell b1 h, keep_cell b2 h, keep_cell y1 h⟩)
  clear z0 z1 z2 z3 hw6 gw6 hb6 hs6 c0 c1 c2 c3 hW
  rcases HARG.out with ⟨rfl, ha, hb⟩ | ⟨rfl, ha, hb⟩ | ⟨rfl, rfl⟩ | ⟨rfl, ha, hb⟩
  · obtain ⟨s, rfl⟩ : ∃ s : Nat, a = (s : Int) := ⟨a.toNat, by omega⟩
    have hs : s < n := by omega
    have HFA := Lib.hid (far_at _ gp n V (ofOut n L) s w6 HP.out (rows_out HEE.out) HLO.out HN12.out.2 hs HSH.out.1)
    have HDS := Lib.hid (dst_bfs (rows_out HEE.out) HLO.out HN12.out.2 hs)
    obtain ⟨m, hm⟩ : ∃ m, grt (bfs (ofOut n L) s) = m := ⟨_, rfl⟩
    have hmb : m ≤ 256 := by have := grt_lt HDS.out HN12.out.1; have := HN12.out.2; omega
    have HM := Lib.hid hm
    have hmi : (m : Int) ≤ 256 := by omega
    clear ha hb hs hm hmb
    go_upto_region 12 with (go_at_call 31; refine HFA.out.mono ?_; rintro e w7 ⟨g, rfl, hg, hg0, hb7⟩; have HU := Lib.hid hg; have HG0 := Lib.hid hg0; have HB7 := Lib.hid hb7; clear hg hg0 hb7)
    have HGR := grt_ub HU.out HDS.out.len HN12.out.2 HDS.out.lt
    rw [HM.out] at HGR
    have HGR2 := Lib.hid HGR
    clear HGR
    go_wp2_with (go_at_call 32; refine HGR2.out.mono ?_; rintro e w8 ⟨rfl, rfl⟩)
    have HJ : job n L 1 (s : Int) = (bfs (ofOut n L) s, m + 1) := by unfold job; rw [if_pos rfl, Int.toNat_natCast, HM.out]
    rw [HJ]
    exact bodyPost_ret (v := .tuple #[.slice (some ⟨g, 0, none⟩) n n, .int .i64 ((m + 1 : Nat) : Int), .int .i64 0]) (by simp [results, Try.results23, go_sem]) rfl ⟨g, rfl, HU.out, Nat.le_trans HBW6.out.size HG0.out, HBW6.out.trans (HB7.out.mono HBW6.out.size)⟩
  · obtain ⟨s, rfl⟩ : ∃ s : Nat, a = (s : Int) := ⟨a.toNat, by omega⟩
    have HRK := Lib.hid (fun (W' : World) (hb' : Below w6.heap.size w6 W') => rank_at _ gp n s (.slice (some ⟨gq, 0, none⟩) n n) V (ofOut n L) W' (HP.out.below hb') (rows_out HEE.out) HLO.out HN12.out.1 HN12.out.2 HSH.out.1 (by omega) gq n rfl)
    have HJ := Lib.hid (show job n L 2 (s : Int) = (ranks (ofOut n L) s, s) by unfold job; rw [if_neg (by decide), if_pos rfl, Int.toNat_natCast])
    clear ha hb
    go_upto_region 14 with (fail)
    go_region_held3 (fun W' => W'.cell? ⟨w5.heap.size, 0, none⟩ = some (.int .i64 (n : Int)) ∧ W'.cell? ⟨w5.heap.size, 1, none⟩ = some (.slice (some ⟨gp, 0, none⟩) n n) ∧ W'.cell? ⟨w5.heap.size, 2, none⟩ = some (.slice (some ⟨gq, 0, none⟩) n n) ∧ W'.cell? ⟨w.heap.size, 1, none⟩ = some (.int .i64 (s : Int)))
      (first | exact HS6.out _ hb7 | exact HS6.out _ (Below.refl _ _).drew)
      ((go_at_call 33; refine (HRK.out _ (Below.refl _ _).drew).mono ?_; rintro e w7 ⟨g, rfl, hg, hg0, hb7'⟩; have hb7 := (Below.refl w6.heap.size w6).drew.trans hb7'))
    go_wp2
    have hg0' : w6.heap.size ≤ g := hg0
    exact bodyPost_ret (v := .tuple #[.slice (some ⟨g, 0, none⟩) n n, .int .i64 (s : Int), .int .i64 0]) (by simp [results, Try.results23, go_sem]) rfl ⟨g, by rw [HJ.out], by rw [HJ.out]; exact hg, Nat.le_trans HBW6.out.size hg0', HBW6.out.trans (hb7.mono HBW6.out.size)⟩
  · have HLB := Lib.hid (labels_at _ gq n (.slice (some ⟨gp, 0, none⟩) n n) U (ofAll n L) w6 HQ.out (rows_all HEE.out) HLA2.out HN12.out.1 HN12.out.2 HSH.out.2 gp n rfl)
    have hmb := labTo_top (rows_all HEE.out) HLA2.out HN12.out.1 HN12.out.2 n (Nat.le_refl _)
    have hlb : labTo (ofAll n L) n = labs (ofAll n L) := by unfold labs; rw [← HLA2.out]
    rw [hlb] at hmb
    obtain ⟨m, hm⟩ : ∃ m, (labs (ofAll n L)).2 = m := ⟨_, rfl⟩
    have HM := Lib.hid hm
    rw [hm] at hmb HLB
    have hmi : (m : Int) ≤ 256 := by have := HN12.out.2; omega
    have HJ := Lib.hid (show job n L 3 0 = ((labs (ofAll n L)).1, m + 1) by unfold job; rw [if_neg (by decide), if_neg (by decide), if_pos rfl, HM.out])
    clear hmb hlb hm
    go_wp2_with (go_at_call 34; refine HLB.out.mono ?_; rintro e w7 ⟨g, rfl, hg, hg0, hb7⟩; have HU := Lib.hid hg; have HG0 := Lib.hid hg0; have HB7 := Lib.hid hb7; clear hg hg0 hb7)
    exact bodyPost_ret (v := .tuple #[.slice (some ⟨g, 0, none⟩) n n, .int .i64 ((m + 1 : Nat) : Int), .int .i64 0]) (by simp [results, Try.results23, go_sem]) rfl ⟨g, by rw [HJ.out], by rw [HJ.out]; exact HU.out, Nat.le_trans HBW6.out.size HG0.out, HBW6.out.trans (HB7.out.mono HBW6.out.size)⟩
  · obtain ⟨s, rfl⟩ : ∃ s : Nat, a = (s : Int) := ⟨a.toNat, by omega⟩
    have HCR := Lib.hid (cores_at _ gq n s (.slice (some ⟨gp, 0, none⟩) n n) U (ofAll n L) w6 HQ.out (rows_all HEE.out) HLA2.out HN12.out.1 HN12.out.2 HSH.out.2 (by omega) gp n rfl)
    have hrc : ∃ k, (cores (ofAll n L) s).2 = k ∧ k ≤ n := by
      obtain ⟨k, k1, k2, _⟩ := roundsC (n := n) (a := s) HEE.out HLEN.out
      exact ⟨k, by rw [k1], k2⟩
    obtain ⟨m, hm, hmb⟩ := hrc
    have HM := Lib.hid hm
    rw [hm] at HCR
    have hmi : (m : Int) ≤ 256 := by have := HN12.out.2; omega
    have HJ := Lib.hid (show job n L 4 (s : Int) = ((cores (ofAll n L) s).1, m + 1) by unfold job; rw [if_neg (by decide), if_neg (by decide), if_neg (by decide), Int.toNat_natCast, HM.out])
    clear hmb hm ha hb
    go_wp2_with (go_at_call 35; refine HCR.out.mono ?_; rintro e w7 ⟨g, rfl, hg, hg0, hb7⟩; have HU := Lib.hid hg; have HG0 := Lib.hid hg0; have HB7 := Lib.hid hb7; clear hg hg0 hb7)
    exact bodyPost_ret (v := .tuple #[.slice (some ⟨g, 0, none⟩) n n, .int .i64 ((m + 1 : Nat) : Int), .int .i64 0]) (by simp [results, Try.results23, go_sem]) rfl ⟨g, by rw [HJ.out], by rw [HJ.out]; exact HU.out, Nat.le_trans HBW6.out.size HG0.out, HBW6.out.trans (HB7.out.mono HBW6.out.size)⟩
end Go.Proofs.Ytpmgkmodpneiiaa.E
