/- Ask.Made: a drawn job may be asked for. Conditions: those that each theorem names. -/
import Derived.Test.YtpmgkmodpneiiaaOpg
namespace Go.Proofs.Ytpmgkmodpneiiaa.E
open Go.RowKit Go.Sort Go.Shelf
open Go.Proofs.Ytpmgkmodpneiiaa.Ma
set_option linter.unusedVariables false
set_option linter.unusedSimpArgs false
theorem box4n (w : World) (x0 x1 x2 x3 : Value) (T : TypeId) : ∃ W, w.alloc (.cells #[x0, x1, x2, x3] T) = W ∧ W.heap[w.heap.size]? = some (.cells #[x0, x1, x2, x3] T (0, 0)) ∧ Below w.heap.size w W ∧ W.heap.size = w.heap.size + 1 ∧ W.cell? ⟨w.heap.size, 0, none⟩ = some x0 ∧ W.cell? ⟨w.heap.size, 1, none⟩ = some x1 ∧ W.cell? ⟨w.heap.size, 2, none⟩ = some x2 ∧ W.cell? ⟨w.heap.size, 3, none⟩ = some x3 := by
  obtain ⟨W, hW, gW, hb, hs⟩ := box_new w (.cells #[x0, x1, x2, x3] T (0, 0))
  exact ⟨W, hW, gW, hb, hs, cell_of_heap (i := 0) gW rfl, cell_of_heap (i := 1) gW rfl, cell_of_heap (i := 2) gW rfl, cell_of_heap (i := 3) gW rfl⟩
set_option maxRecDepth 100000 in
set_option maxHeartbeats 4000000 in
theorem ask_at (K A P D : Int) (n : Nat) (w : World) (hK : 0 ≤ K ∧ K ≤ 255) (hA : 0 ≤ A ∧ A ≤ 255) (hP : 0 ≤ P ∧ P ≤ 255) (hD : 0 ≤ D ∧ D ≤ 65535) (hn : 1 ≤ n ∧ n ≤ 60) :
    Calls Try.prog 17 #[.agg #[.int .u8 K, .int .u8 A, .int .u8 P, .int .u16 D], .int .i64 (n : Int)] w fun e w' => ∃ k a p d : Int, e = .returned (rq k a p d) ∧ chk k a p n = 0 ∧ Below w.heap.size w w' := by
  obtain ⟨W, hW, gW, hbl, hsz, b0, b1, b2, b3⟩ := box4n w (.int .u8 K) (.int .u8 A) (.int .u8 P) (.int .u16 D) 44
  obtain ⟨W2, hW2, gW2, hb2, hs2⟩ := box_new W (.cells #[.int .i64 0, .int .i64 0, .int .i64 0, .int .i64 0] 24 (0, 0))
  have HB := Lib.hid (hbl.trans (hb2.mono hbl.size))
  have HSZ := Lib.hid (show W2.heap.size = W.heap.size + 1 ∧ w.heap.size ≤ W.heap.size from ⟨hs2, by omega⟩)
  have HRC := Lib.hid gW2
  replace b0 := keep_cell b0 hb2
  replace b1 := keep_cell b1 hb2
  replace b2 := keep_cell b2 hb2
  replace b3 := keep_cell b3 hb2
  have x0 : IntKind.i64.wrap K = K := wrap8 hK
  have x1 : IntKind.i64.wrap A = A := wrap8 hA
  have x2 : IntKind.i64.wrap P = P := wrap8 hP
  have x3 : IntKind.i64.wrap D = D := IntWalk.i64_in _ ⟨by omega, by omega⟩
  have y0 : K.tmod 4 = K % 4 := Int.tmod_eq_emod_of_nonneg hK.1
  have y2 : P.tmod 8 = P % 8 := Int.tmod_eq_emod_of_nonneg hP.1
  have y3 : D.tmod 1000 = D % 1000 := Int.tmod_eq_emod_of_nonneg hD.1
  have ya : A.tmod (n : Int) = A % (n : Int) := Int.tmod_eq_emod_of_nonneg hA.1
  have yb : A.tmod 12 = A % 12 := Int.tmod_eq_emod_of_nonneg hA.1
  have yc : A.tmod 9 = A % 9 := Int.tmod_eq_emod_of_nonneg hA.1
  have n0 : ¬ ((n : Int) = 0) := by omega
  have n1 : ¬ (n = 0) := by omega
  obtain ⟨pp, hpp⟩ : ∃ x, P % 8 = x := ⟨_, rfl⟩
  obtain ⟨dd, hdd⟩ : ∃ x, D % 1000 = x := ⟨_, rfl⟩
  obtain ⟨a1, ha1⟩ : ∃ x, A % (n : Int) = x := ⟨_, rfl⟩
  obtain ⟨a2, ha2⟩ : ∃ x, A % 12 = x := ⟨_, rfl⟩
  obtain ⟨a3, ha3⟩ : ∃ x, A % 9 = x := ⟨_, rfl⟩
  rw [hpp] at y2
  rw [hdd] at y3
  rw [ha1] at ya
  rw [ha2] at yb
  rw [ha3] at yc
  have ha1b : 0 ≤ a1 ∧ a1 < n := by rw [← ha1]; exact ⟨Int.emod_nonneg _ (by omega), Int.emod_lt_of_pos _ (by omega)⟩
  have z3 : RowKit.wrap64 (256 + dd) = 256 + dd := IntWalk.wrap64_in _ ⟨by omega, by omega⟩
  have z3' : IntKind.i64.wrap (256 + dd) = 256 + dd := IntWalk.i64_in _ ⟨by omega, by omega⟩
  have z4 : RowKit.wrap64 (1 + a2) = 1 + a2 := IntWalk.wrap64_in _ ⟨by omega, by omega⟩
  have z4' : IntKind.i64.wrap (1 + a2) = 1 + a2 := IntWalk.i64_in _ ⟨by omega, by omega⟩
  have HPP := Lib.hid (show 0 ≤ pp ∧ pp ≤ 7 by omega)
  have HA1 := Lib.hid ha1b
  have HA2 := Lib.hid (show 0 ≤ a2 ∧ a2 ≤ 11 by omega)
  have HA3 := Lib.hid (show 0 ≤ a3 ∧ a3 ≤ 8 by omega)
  have HN := Lib.hid hn
  have hcase : K % 4 = 0 ∨ K % 4 = 1 ∨ K % 4 = 2 ∨ K % 4 = 3 := by omega
  clear gW2 hb2 hs2 hbl hsz hK hA hP hD hn hpp hdd ha1 ha2 ha3 ha1b gW
  have HEND := Lib.hid (show ∀ (wr : World) (kk aa : Int), Below W2.heap.size W2 wr → chk kk aa pp n = 0 → ∃ WF, ((((wr.setCell ⟨W.heap.size, 0, none⟩ (.int .i64 kk)).setCell ⟨W.heap.size, 1, none⟩ (.int .i64 aa)).setCell ⟨W.heap.size, 2, none⟩ (.int .i64 pp)).setCell ⟨W.heap.size, 3, none⟩ (.int .i64 (256 + dd))) = WF ∧ WF.cell? ⟨W.heap.size, 0, none⟩ = some (.int .i64 kk) ∧ WF.cell? ⟨W.heap.size, 1, none⟩ = some (.int .i64 aa) ∧ WF.cell? ⟨W.heap.size, 2, none⟩ = some (.int .i64 pp) ∧ WF.cell? ⟨W.heap.size, 3, none⟩ = some (.int .i64 (256 + dd)) ∧ Below w.heap.size w WF from fun wr kk aa hb hc => by
    have hz : wr.heap[W.heap.size]? = some (.cells #[.int .i64 0, .int .i64 0, .int .i64 0, .int .i64 0] 24 (0, 0)) := (hb.block _ (by have := HSZ.out; omega)).trans HRC.out
    obtain ⟨WF, hWF⟩ : ∃ V, ((((wr.setCell ⟨W.heap.size, 0, none⟩ (.int .i64 kk)).setCell ⟨W.heap.size, 1, none⟩ (.int .i64 aa)).setCell ⟨W.heap.size, 2, none⟩ (.int .i64 pp)).setCell ⟨W.heap.size, 3, none⟩ (.int .i64 (256 + dd))) = V := ⟨_, rfl⟩
    have hq : WF.heap[W.heap.size]? = some (.cells #[.int .i64 kk, .int .i64 aa, .int .i64 pp, .int .i64 (256 + dd)] 24 (0, 0)) := by
      rw [← hWF, heap_setCell_at (heap_setCell_at (heap_setCell_at (heap_setCell_at hz _) _) _)]
      rfl
    have hf : Fr (fun k => k = W.heap.size) wr WF := by
      rw [← hWF]
      exact (((Fr.setCell wr ⟨W.heap.size, 0, none⟩ _).trans (Fr.setCell _ ⟨W.heap.size, 1, none⟩ _)).trans (Fr.setCell _ ⟨W.heap.size, 2, none⟩ _)).trans (Fr.setCell _ ⟨W.heap.size, 3, none⟩ _)
    have hbw : Below w.heap.size w wr := HB.out.trans (hb.mono HB.out.size)
    exact ⟨WF, hWF, cell_of_heap (i := 0) hq rfl, cell_of_heap (i := 1) hq rfl, cell_of_heap (i := 2) hq rfl, cell_of_heap (i := 3) hq rfl, hbw.trans (hf.below hbw.size (fun i e => by rw [e]; exact HSZ.out.2))⟩)
  have HFREE := Lib.hid (show ∀ (wr : World), Below W2.heap.size W2 wr → wr.frozen? ⟨W.heap.size, 0, none⟩ = false ∧ wr.frozen? ⟨W.heap.size, 1, none⟩ = false ∧ wr.frozen? ⟨W.heap.size, 2, none⟩ = false ∧ wr.frozen? ⟨W.heap.size, 3, none⟩ = false ∧ wr.cell? ⟨W.heap.size, 0, none⟩ = some (.int .i64 0) ∧ wr.cell? ⟨W.heap.size, 1, none⟩ = some (.int .i64 0) ∧ wr.cell? ⟨W.heap.size, 2, none⟩ = some (.int .i64 0) ∧ wr.cell? ⟨W.heap.size, 3, none⟩ = some (.int .i64 0) from fun wr hb => by
    have hz : wr.heap[W.heap.size]? = some (.cells #[.int .i64 0, .int .i64 0, .int .i64 0, .int .i64 0] 24 (0, 0)) := (hb.block _ (by have := HSZ.out; omega)).trans HRC.out
    exact ⟨free_of_heap (i := 0) hz (by simp), free_of_heap (i := 1) hz (by simp), free_of_heap (i := 2) hz (by simp), free_of_heap (i := 3) hz (by simp), cell_of_heap (i := 0) hz rfl, cell_of_heap (i := 1) hz rfl, cell_of_heap (i := 2) hz rfl, cell_of_heap (i := 3) hz rfl⟩)
  rcases hcase with hc | hc | hc | hc <;> rw [hc] at y0 <;> clear hc
  · go_enter Try.func17, Try.ntmps17
    go_upto_region 2 with (fail)
    obtain ⟨w3, hw3, gw3, b3', s3, d0, d1, d2, d3⟩ := box4n W2 (.int .i64 1) (.int .i64 0) (.int .i64 pp) (.int .i64 (256 + dd)) 24
    rw [hw3]
    replace b1 := keep_cell b1 b3'
    have HB3 := Lib.hid b3'
    obtain ⟨rb, hrb⟩ : ∃ b, W2.heap.size = b := ⟨_, rfl⟩
    have HRB := Lib.hid hrb
    rw [hrb] at gw3 d0 d1 d2 d3 ⊢
    have f1 := free_of_heap (i := 1) gw3 (by simp)
    have HG3 := Lib.hid gw3
    clear hw3 gw3 b3' s3 hrb
    go_upto_region 9 with (fail)
    obtain ⟨w4, hw4, gw4, hb4⟩ : ∃ V, w3.setCell ⟨rb, 1, none⟩ (.int .i64 (a1)) = V ∧ V.heap[rb]? = some (.cells #[.int .i64 1, .int .i64 (a1), .int .i64 pp, .int .i64 (256 + dd)] 24 (0, 0)) ∧ Below W2.heap.size W2 V := by
      refine ⟨_, rfl, ?_, HB3.out.trans ((Fr.setCell w3 ⟨rb, 1, none⟩ _).below HB3.out.size (fun i e => by have e' : i = rb := e; rw [e', HRB.out]; exact Nat.le_refl _))⟩
      rw [heap_setCell_at HG3.out]
      rfl
    rw [hw4]
    have q0 := cell_of_heap (i := 0) gw4 rfl
    have q1 := cell_of_heap (i := 1) gw4 rfl
    have q2 := cell_of_heap (i := 2) gw4 rfl
    have q3 := cell_of_heap (i := 3) gw4 rfl
    have HB4 := Lib.hid hb4
    obtain ⟨r0, r1, r2, r3, t0, t1, t2, t3⟩ := HFREE.out w4 hb4
    clear d0 d1 d2 d3 f1 b1 hw4 gw4 hb4
    go_wp2
    obtain ⟨WF, hWF, v0, v1, v2, v3, hbF⟩ := HEND.out w4 1 (a1) HB4.out (by have := HPP.out; have := HN.out; have := HA1.out; have := HA2.out; have := HA3.out; unfold chk okN argOk; rw [if_pos]; simp; omega)
    rw [hWF]
    exact bodyPost_ret (v := rq 1 (a1) pp (256 + dd)) (by simp [results, Try.results17, go_sem, v0, v1, v2, v3, rq]) rfl ⟨_, _, _, _, rfl, (by have := HPP.out; have := HN.out; have := HA1.out; have := HA2.out; have := HA3.out; unfold chk okN argOk; rw [if_pos]; simp; omega), hbF⟩
  · go_enter Try.func17, Try.ntmps17
    go_upto_region 2 with (fail)
    obtain ⟨w3, hw3, gw3, b3', s3, d0, d1, d2, d3⟩ := box4n W2 (.int .i64 2) (.int .i64 0) (.int .i64 pp) (.int .i64 (256 + dd)) 24
    rw [hw3]
    replace b1 := keep_cell b1 b3'
    have HB3 := Lib.hid b3'
    obtain ⟨rb, hrb⟩ : ∃ b, W2.heap.size = b := ⟨_, rfl⟩
    have HRB := Lib.hid hrb
    rw [hrb] at gw3 d0 d1 d2 d3 ⊢
    have f1 := free_of_heap (i := 1) gw3 (by simp)
    have HG3 := Lib.hid gw3
    clear hw3 gw3 b3' s3 hrb
    go_upto_region 9 with (fail)
    obtain ⟨w4, hw4, gw4, hb4⟩ : ∃ V, w3.setCell ⟨rb, 1, none⟩ (.int .i64 (1 + a2)) = V ∧ V.heap[rb]? = some (.cells #[.int .i64 2, .int .i64 (1 + a2), .int .i64 pp, .int .i64 (256 + dd)] 24 (0, 0)) ∧ Below W2.heap.size W2 V := by
      refine ⟨_, rfl, ?_, HB3.out.trans ((Fr.setCell w3 ⟨rb, 1, none⟩ _).below HB3.out.size (fun i e => by have e' : i = rb := e; rw [e', HRB.out]; exact Nat.le_refl _))⟩
      rw [heap_setCell_at HG3.out]
      rfl
    rw [hw4]
    have q0 := cell_of_heap (i := 0) gw4 rfl
    have q1 := cell_of_heap (i := 1) gw4 rfl
    have q2 := cell_of_heap (i := 2) gw4 rfl
    have q3 := cell_of_heap (i := 3) gw4 rfl
    have HB4 := Lib.hid hb4
    obtain ⟨r0, r1, r2, r3, t0, t1, t2, t3⟩ := HFREE.out w4 hb4
    clear d0 d1 d2 d3 f1 b1 hw4 gw4 hb4
    go_wp2
    obtain ⟨WF, hWF, v0, v1, v2, v3, hbF⟩ := HEND.out w4 2 (1 + a2) HB4.out (by have := HPP.out; have := HN.out; have := HA1.out; have := HA2.out; have := HA3.out; unfold chk okN argOk; rw [if_pos]; simp; omega)
    rw [hWF]
    exact bodyPost_ret (v := rq 2 (1 + a2) pp (256 + dd)) (by simp [results, Try.results17, go_sem, v0, v1, v2, v3, rq]) rfl ⟨_, _, _, _, rfl, (by have := HPP.out; have := HN.out; have := HA1.out; have := HA2.out; have := HA3.out; unfold chk okN argOk; rw [if_pos]; simp; omega), hbF⟩
  · go_enter Try.func17, Try.ntmps17
    go_upto_region 2 with (fail)
    obtain ⟨w3, hw3, gw3, b3', s3, d0, d1, d2, d3⟩ := box4n W2 (.int .i64 3) (.int .i64 0) (.int .i64 pp) (.int .i64 (256 + dd)) 24
    rw [hw3]
    replace b1 := keep_cell b1 b3'
    have HB3 := Lib.hid b3'
    obtain ⟨r0, r1, r2, r3, t0, t1, t2, t3⟩ := HFREE.out w3 b3'
    clear hw3 gw3 b3' s3
    go_wp2
    obtain ⟨WF, hWF, v0, v1, v2, v3, hbF⟩ := HEND.out w3 3 0 HB3.out (by have := HPP.out; have := HN.out; unfold chk okN argOk; rw [if_pos]; simp; omega)
    rw [hWF]
    exact bodyPost_ret (v := rq 3 0 pp (256 + dd)) (by simp [results, Try.results17, go_sem, v0, v1, v2, v3, rq]) rfl ⟨_, _, _, _, rfl, (by have := HPP.out; have := HN.out; unfold chk okN argOk; rw [if_pos]; simp; omega), hbF⟩
  · go_enter Try.func17, Try.ntmps17
    go_upto_region 2 with (fail)
    obtain ⟨w3, hw3, gw3, b3', s3, d0, d1, d2, d3⟩ := box4n W2 (.int .i64 4) (.int .i64 0) (.int .i64 pp) (.int .i64 (256 + dd)) 24
    rw [hw3]
    replace b1 := keep_cell b1 b3'
    have HB3 := Lib.hid b3'
    obtain ⟨rb, hrb⟩ : ∃ b, W2.heap.size = b := ⟨_, rfl⟩
    have HRB := Lib.hid hrb
    rw [hrb] at gw3 d0 d1 d2 d3 ⊢
    have f1 := free_of_heap (i := 1) gw3 (by simp)
    have HG3 := Lib.hid gw3
    clear hw3 gw3 b3' s3 hrb
    go_upto_region 9 with (fail)
    obtain ⟨w4, hw4, gw4, hb4⟩ : ∃ V, w3.setCell ⟨rb, 1, none⟩ (.int .i64 (a3)) = V ∧ V.heap[rb]? = some (.cells #[.int .i64 4, .int .i64 (a3), .int .i64 pp, .int .i64 (256 + dd)] 24 (0, 0)) ∧ Below W2.heap.size W2 V := by
      refine ⟨_, rfl, ?_, HB3.out.trans ((Fr.setCell w3 ⟨rb, 1, none⟩ _).below HB3.out.size (fun i e => by have e' : i = rb := e; rw [e', HRB.out]; exact Nat.le_refl _))⟩
      rw [heap_setCell_at HG3.out]
      rfl
    rw [hw4]
    have q0 := cell_of_heap (i := 0) gw4 rfl
    have q1 := cell_of_heap (i := 1) gw4 rfl
    have q2 := cell_of_heap (i := 2) gw4 rfl
    have q3 := cell_of_heap (i := 3) gw4 rfl
    have HB4 := Lib.hid hb4
    obtain ⟨r0, r1, r2, r3, t0, t1, t2, t3⟩ := HFREE.out w4 hb4
    clear d0 d1 d2 d3 f1 b1 hw4 gw4 hb4
    go_wp2
    obtain ⟨WF, hWF, v0, v1, v2, v3, hbF⟩ := HEND.out w4 4 (a3) HB4.out (by have := HPP.out; have := HN.out; have := HA1.out; have := HA2.out; have := HA3.out; unfold chk okN argOk; rw [if_pos]; simp; omega)
    rw [hWF]
    exact bodyPost_ret (v := rq 4 (a3) pp (256 + dd)) (by simp [results, Try.results17, go_sem, v0, v1, v2, v3, rq]) rfl ⟨_, _, _, _, rfl, (by have := HPP.out; have := HN.out; have := HA1.out; have := HA2.out; have := HA3.out; unfold chk okN argOk; rw [if_pos]; simp; omega), hbF⟩
end Go.Proofs.Ytpmgkmodpneiiaa.E
