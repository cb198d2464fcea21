/- How many edges begin and end at each vertex, walked. Conditions: the list lies readable. -/
import Derived.Test.YtfehlnmkeniniaaRev
namespace Go.Proofs.Ytfehlnmkeniniaa.E
open Go.RowKit Go.Sort Go.Shelf
open Go.Proofs.Ytfehlnmkeniniaa.Ma
set_option linter.unusedVariables false
set_option linter.unusedSimpArgs false
def dO (N : Nat) (L : List Ed) : List Int := (List.range N).map fun v : Nat => degO L (v : Int)
def dI (N : Nat) (L : List Ed) : List Int := (List.range N).map fun v : Nat => degI L (v : Int)
theorem dO_len (N : Nat) (L : List Ed) : (dO N L).length = N := by simp [dO]
theorem dI_len (N : Nat) (L : List Ed) : (dI N L).length = N := by simp [dI]
theorem degO_snoc (T : List Ed) (x : Ed) (v : Int) : degO (T ++ [x]) v = degO T v + (if x.1 = v then 1 else 0) := by
  unfold degO
  rw [List.filter_append, List.length_append]
  by_cases e : x.1 = v <;> simp [e]
theorem degI_snoc (T : List Ed) (x : Ed) (v : Int) : degI (T ++ [x]) v = degI T v + (if x.2 = v then 1 else 0) := by
  unfold degI
  rw [List.filter_append, List.length_append]
  by_cases e : x.2 = v <;> simp [e]
theorem degO_le (T : List Ed) (v : Int) : 0 ≤ degO T v ∧ degO T v ≤ T.length := by
  unfold degO
  have := List.length_filter_le (fun x : Ed => x.1 == v) T
  omega
theorem degI_le (T : List Ed) (v : Int) : 0 ≤ degI T v ∧ degI T v ≤ T.length := by
  unfold degI
  have := List.length_filter_le (fun x : Ed => x.2 == v) T
  omega
theorem dO_at {N j : Nat} (L : List Ed) (h : j < N) : (dO N L)[j]? = some (degO L j) := by simp [dO, h]
theorem dI_at {N j : Nat} (L : List Ed) (h : j < N) : (dI N L)[j]? = some (degI L j) := by simp [dI, h]
theorem dO_in {N j : Nat} (T : List Ed) (x2 : Int) (h : j < N) : dO N (T ++ [((j : Int), x2)]) = (dO N T).set j (degO T j + 1) := by
  refine List.ext_getElem? fun i => ?_
  by_cases hi : i < N
  · rw [dO_at _ hi, degO_snoc, List.getElem?_set, dO_len]
    by_cases e : j = i
    · subst e; simp [h]
    · rw [if_neg e, dO_at _ hi, if_neg (by intro e'; exact e (Int.ofNat.inj e'))]; simp
  · rw [List.getElem?_eq_none (by rw [dO_len]; omega), List.getElem?_eq_none (by rw [List.length_set, dO_len]; omega)]
theorem dI_in {N j : Nat} (T : List Ed) (x1 : Int) (h : j < N) : dI N (T ++ [(x1, (j : Int))]) = (dI N T).set j (degI T j + 1) := by
  refine List.ext_getElem? fun i => ?_
  by_cases hi : i < N
  · rw [dI_at _ hi, degI_snoc, List.getElem?_set, dI_len]
    by_cases e : j = i
    · subst e; simp [h]
    · rw [if_neg e, dI_at _ hi, if_neg (by intro e'; exact e (Int.ofNat.inj e'))]; simp
  · rw [List.getElem?_eq_none (by rw [dI_len]; omega), List.getElem?_eq_none (by rw [List.length_set, dI_len]; omega)]
theorem dO_out {N : Nat} (T : List Ed) (x1 x2 : Int) (h : ¬ (0 ≤ x1 ∧ x1 < N)) : dO N (T ++ [(x1, x2)]) = dO N T := by
  refine List.ext_getElem? fun i => ?_
  by_cases hi : i < N
  · rw [dO_at _ hi, dO_at _ hi, degO_snoc, if_neg (by intro e; dsimp only at e; omega)]; simp
  · rw [List.getElem?_eq_none (by rw [dO_len]; omega), List.getElem?_eq_none (by rw [dO_len]; omega)]
theorem dI_out {N : Nat} (T : List Ed) (x1 x2 : Int) (h : ¬ (0 ≤ x2 ∧ x2 < N)) : dI N (T ++ [(x1, x2)]) = dI N T := by
  refine List.ext_getElem? fun i => ?_
  by_cases hi : i < N
  · rw [dI_at _ hi, dI_at _ hi, degI_snoc, if_neg (by intro e; dsimp only at e; omega)]; simp
  · rw [List.getElem?_eq_none (by rw [dI_len]; omega), List.getElem?_eq_none (by rw [dI_len]; omega)]
def degC (n : Int) (L : List Ed) : List Int × List Int := if 1 ≤ n ∧ n ≤ 256 then (dO n.toNat L, dI n.toNat L) else ([], [])
abbrev arr (D : List Int) : Obj := .cells (D.map (Value.int .i64)).toArray 3 (0, 0)
theorem make_n (N : Nat) (h : N ≤ 256) (w : World) : (Instr.makeSlice 29 (.int .i64 (N : Int)) (.int .i64 (N : Int))).run Try.prog w = .ok (.slice (some ⟨w.heap.size, 0, none⟩) N N) (w.alloc (arr (List.replicate N 0))) := by
  obtain ⟨i0, hi, hz0, hz1, hz2⟩ := info_parts info3
  have hr := run_makeSlice (P := Try.prog) w 29 3 i0 _ Try.underlying29 hi hz0 .i64 .i64 (N : Int) (N : Int) (by omega) (by omega) (by rw [hz1]; omega) (by rw [hz2]; omega) (by omega)
  rw [hr]
  have e : madeCells (Value.int .i64 0).cells ((N : Int).toNat * i0.size) = ((List.replicate N (0 : Int)).map (Value.int .i64)).toArray := by
    apply Array.ext'
    rw [show (Value.int IntKind.i64 0).cells = #[Value.int .i64 0] from rfl, toList_madeCells_one, hz1]
    simp
  rw [e]
  simp [arr]
theorem arr_row {w : World} {p B : Nat} {D : List Int} (h : w.heap[p]? = some (arr D)) (hB : B ≤ p) (hl : D.length ≤ 256) : w.ownsRow B 3 1 (.slice (some ⟨p, 0, none⟩) D.length D.length) D.length (cellsK encI D) := by
  have e : cellsK encI D = D.map (Value.int .i64) := by
    unfold cellsK
    clear h hl
    induction D with
    | nil => rfl
    | cons y r ih => simp [encI, List.flatMap_cons] at ih ⊢; exact ih
  exact ⟨by rw [e]; simp, .inr ⟨p, D.length, _, rfl, hB, h, Nat.le_refl _, by unfold maxLen; omega, by simp, by rw [e, Nat.mul_one, List.take_of_length_le (by simp)]⟩⟩
theorem arr_set {w : World} {p j : Nat} {D : List Int} (h : w.heap[p]? = some (arr D)) (y : Int) : (w.setCell ⟨p, j, none⟩ (.int .i64 y)).heap[p]? = some (arr (D.set j y)) := by
  rw [heap_setCell_at h]
  simp [arr, List.map_set]
theorem arr_cell {w : World} {p j : Nat} {D : List Int} {y : Int} (h : w.heap[p]? = some (arr D)) (hy : D[j]? = some y) : w.cell? ⟨p, j, none⟩ = some (.int .i64 y) ∧ w.frozen? ⟨p, j, none⟩ = false := by
  have hj := (List.getElem?_eq_some_iff.1 hy).1
  exact ⟨cell_of_heap h (by simp [hy]), free_of_heap h (by simpa using hj)⟩
theorem two_arrs (w : World) (X : Obj) : ((w.alloc X).alloc X).drew.heap[w.heap.size]? = some X ∧ ((w.alloc X).alloc X).drew.heap[w.heap.size + 1]? = some X ∧ Below w.heap.size w ((w.alloc X).alloc X).drew := by
  have s1 : (w.alloc X).heap.size = w.heap.size + 1 := by simp
  refine ⟨?_, ?_, (((Below.refl _ _).alloc (Nat.le_refl _) _).alloc (by simp) _).drew⟩
  · show ((w.alloc X).alloc X).heap[w.heap.size]? = _
    rw [Below.heap_alloc _ _ _ (by simp)]
    exact heap_alloc_new w X
  · have := heap_alloc_new (w.alloc X) X
    rw [s1] at this
    exact this
theorem dO_nil (N : Nat) : dO N [] = List.replicate N 0 := by
  refine List.ext_getElem? fun i => ?_
  by_cases h : i < N
  · rw [dO_at _ h, List.getElem?_replicate, if_pos h]; rfl
  · rw [List.getElem?_eq_none (by rw [dO_len]; omega), List.getElem?_eq_none (by simp; omega)]
theorem dI_nil (N : Nat) : dI N [] = List.replicate N 0 := by
  refine List.ext_getElem? fun i => ?_
  by_cases h : i < N
  · rw [dI_at _ h, List.getElem?_replicate, if_pos h]; rfl
  · rw [List.getElem?_eq_none (by rw [dI_len]; omega), List.getElem?_eq_none (by simp; omega)]
set_option maxRecDepth 100000 in
set_option maxHeartbeats 4000000 in
theorem deg_at (A : Option Addr) (c : Nat) (n : Int) (L : List Ed) (w : World) (hL : Lies enc2 2 w A L) (hlen : L.length ≤ 500000) :
    Calls Try.prog 11 #[.int .i64 n, .slice A L.length c] w fun e w' => ∃ A1 c1 A2 c2, e = .returned (.tuple #[.slice A1 (degC n L).1.length c1, .slice A2 (degC n L).2.length c2]) ∧ w'.ownsRow w.heap.size 3 1 (.slice A1 (degC n L).1.length c1) (degC n L).1.length (cellsK encI (degC n L).1) ∧ w'.ownsRow w.heap.size 3 1 (.slice A2 (degC n L).2.length c2) (degC n L).2.length (cellsK encI (degC n L).2) ∧ Below w.heap.size w w' := by
  have HL := Lib.hid hL
  have HLen := Lib.hid hlen
  clear hL
  by_cases hn : 1 ≤ n ∧ n ≤ 256
  · obtain ⟨N, rfl⟩ : ∃ N : Nat, n = (N : Int) := ⟨n.toNat, by omega⟩
    have hm : mayR (N : Int) = true := by unfold mayR; simpa using hn
    have hN : N ≤ 256 := by omega
    have hd : degC (N : Int) L = (dO N L, dI N L) := by unfold degC; rw [if_pos hn]; rfl
    rw [hd]
    have hmk := make_n N hN
    clear hd
    go_enter Try.func11, Try.ntmps11
    go_wp2_with (go_at_call 22; refine (may_at _ _).mono ?_; rintro e w1 ⟨rfl, rfl⟩)
    go_cut [4, 5] from 11 to 45 (fun s t wx => ∃ p q, s = .slice (some ⟨p, 0, none⟩) N N ∧ t = .slice (some ⟨q, 0, none⟩) N N ∧ p ≠ q ∧ w.heap.size ≤ p ∧ w.heap.size ≤ q ∧ wx.heap[p]? = some (arr (List.replicate N 0)) ∧ wx.heap[q]? = some (arr (List.replicate N 0)) ∧ Below w.heap.size w wx)
    case first =>
      go_region
      all_goals
        go_wp2
        go_meet
        obtain ⟨t1, t2, t3⟩ := two_arrs w (arr (List.replicate N 0))
        first
          | exact ⟨w.heap.size, w.heap.size + 1, rfl, rfl, by omega, by omega, by omega, t1, t2, t3⟩
          | exact ⟨w.heap.size + 1, w.heap.size, rfl, rfl, by omega, by omega, by omega, t2, t1, t3⟩
    case rest =>
      obtain ⟨p, q, rfl, rfl, hpq, hp, hq, gp, gq, hb⟩ := hcut
      have HPQ := Lib.hid hpq
      have HP := Lib.hid hp
      have HQ := Lib.hid hq
      have GP := Lib.hid gp
      have GQ := Lib.hid gq
      have HB0 := Lib.hid hb
      clear hpq hp hq gp gq hb hmk
      go_wp2
      go_loopw [17] (fun i wr => ∃ k : Nat, k ≤ L.length ∧ i = .int .i64 k ∧ wr.heap[p]? = some (arr (dO N (L.take k))) ∧ wr.heap[q]? = some (arr (dI N (L.take k))) ∧ Below w.heap.size w wr) (fun i _ => L.length - (intOf i).toNat)
      case atStart => exact ⟨0, by omega, rfl, by rw [List.take_zero, dO_nil]; exact GP.out, by rw [List.take_zero, dI_nil]; exact GQ.out, HB0.out⟩
      case round =>
        obtain ⟨k, hk, rfl, gp, gq, hb⟩ := hrel
        have GP := Lib.hid gp
        have GQ := Lib.hid gq
        have HB := Lib.hid hb
        clear hb
        by_cases hlt : k < L.length
        · obtain ⟨⟨x1, x2⟩, hx⟩ : ∃ p, L[k]? = some p := ⟨L[k], List.getElem?_eq_getElem _⟩
          obtain ⟨g, o, rfl, hg, q0, q1⟩ := lies2 (HL.out.below HB.out (Nat.le_refl _)) hx
          have i1 : (k : Int) < (L.length : Int) := by omega
          have hts := Lib.hid (take_snoc hx)
          obtain ⟨W, hW, gW, hbl, hsz, _⟩ := boxed2 wr x1 x2 24
          have lp := lt_of_heap gp
          have lq := lt_of_heap gq
          have gpW := (hbl.block p lp).trans gp
          have gqW := (hbl.block q lq).trans gq
          have HBW := Lib.hid (HB.out.trans (hbl.mono HB.out.size))
          have s0 := cell_of_heap (i := 0) gW rfl
          have HXW := Lib.hid gW
          have npb : p ≠ wr.heap.size := by omega
          have nqb : q ≠ wr.heap.size := by omega
          clear hx hg gp gq gW hbl hsz
          obtain ⟨bx, hbx⟩ : ∃ b, wr.heap.size = b := ⟨_, rfl⟩
          rw [hbx] at s0 HXW npb nqb
          have lbx := Lib.hid (show w.heap.size ≤ bx ∧ bx < W.heap.size by have := HB.out.size; have := lt_of_heap HXW.out; omega)
          have HGP := Lib.hid gpW
          have HGQ := Lib.hid gqW
          obtain ⟨d1, hd1⟩ : ∃ d, degO (L.take k) x1 = d := ⟨_, rfl⟩
          obtain ⟨d2, hd2⟩ : ∃ d, degI (L.take k) x2 = d := ⟨_, rfl⟩
          have bd1 : 0 ≤ d1 ∧ d1 ≤ 500000 := by have := degO_le (L.take k) x1; rw [hd1, List.length_take] at this; omega
          have bd2 : 0 ≤ d2 ∧ d2 ≤ 500000 := by have := degI_le (L.take k) x2; rw [hd2, List.length_take] at this; omega
          have HD1 := Lib.hid hd1
          have HD2 := Lib.hid hd2
          clear gpW gqW hd1 hd2
          go_upto_if 24 with (go_at_call 21; refine (within_at _ _ _).mono ?_; rintro e w1 ⟨rfl, rfl⟩)
          clear hbx
          go_cut [24] from 24 to 43 (fun s wx => (∃ b, s = .bool b) ∧ wx.heap[p]? = some (arr (dO N (L.take (k + 1)))) ∧ wx.heap[q]? = some (arr (dI N (L.take k))) ∧ wx.heap[bx]? = some (.cells #[.int .i64 x1, .int .i64 x2] 24 (0, 0)) ∧ Below w.heap.size w wx)
          case first =>
            cases h1 : inR (N : Int) x1
            · have HF := Lib.hid (show dO N (L.take (k + 1)) = dO N (L.take k) by rw [hts.out]; exact dO_out _ _ _ (by unfold inR at h1; simpa using h1))
              go_wp2
              go_meet
              exact ⟨⟨_, rfl⟩, by rw [HF.out]; exact HGP.out, HGQ.out, HXW.out, HBW.out⟩
            · have hin : 0 ≤ x1 ∧ x1 < (N : Int) := by unfold inR at h1; simpa using h1
              obtain ⟨j1, rfl⟩ : ∃ j : Nat, x1 = (j : Int) := ⟨x1.toNat, by omega⟩
              have HF := Lib.hid (show dO N (L.take (k + 1)) = (dO N (L.take k)).set j1 (d1 + 1) by rw [hts.out, dO_in _ _ (by omega), HD1.out])
              obtain ⟨c1, f1⟩ := arr_cell HGP.out (dO_at _ (show j1 < N by omega))
              rw [HD1.out] at c1
              have j2 : (j1 : Int) < (N : Int) := hin.2
              clear hin
              go_wp2
              go_meet
              have HN := (Fr.setCell W ⟨p, j1, none⟩ (.int .i64 (d1 + 1)))
              exact ⟨⟨_, rfl⟩, by rw [HF.out]; exact arr_set HGP.out _, HN.keep HGQ.out (fun e => HPQ.out e.symm), HN.keep HXW.out (fun e => npb e.symm), HBW.out.trans (HN.below HBW.out.size (fun i e => by have := HP.out; have e' : i = p := e; omega))⟩
          case rest =>
            obtain ⟨⟨b24, rfl⟩, k1, k2, k3, k4⟩ := hcut
            have HGP := Lib.hid k1
            have HGQ := Lib.hid k2
            have HXC := Lib.hid k3
            have HBC := Lib.hid k4
            have s1 := cell_of_heap (i := 1) k3 rfl
            clear k1 k2 k3 k4 s0
            cases h1 : inR (N : Int) x2
            · have HF := Lib.hid (show dI N (L.take (k + 1)) = dI N (L.take k) by rw [hts.out]; exact dI_out _ _ _ (by unfold inR at h1; simpa using h1))
              go_wp2_with (go_at_call 21; refine (within_at _ _ _).mono ?_; rintro e w1 ⟨rfl, rfl⟩)
              go_roundw
              case rel => exact ⟨k + 1, by omega, by go_num, HGP.out, by rw [HF.out]; exact HGQ.out, HBC.out⟩
              case measure => simp [intOf]; omega
            · have hin : 0 ≤ x2 ∧ x2 < (N : Int) := by unfold inR at h1; simpa using h1
              obtain ⟨j1, rfl⟩ : ∃ j : Nat, x2 = (j : Int) := ⟨x2.toNat, by omega⟩
              have HF := Lib.hid (show dI N (L.take (k + 1)) = (dI N (L.take k)).set j1 (d2 + 1) by rw [hts.out, dI_in _ _ (by omega), HD2.out])
              obtain ⟨c1, f1⟩ := arr_cell HGQ.out (dI_at _ (show j1 < N by omega))
              rw [HD2.out] at c1
              have j2 : (j1 : Int) < (N : Int) := hin.2
              clear hin
              go_wp2_with (go_at_call 21; refine (within_at _ _ _).mono ?_; rintro e w1 ⟨rfl, rfl⟩)
              go_roundw
              case rel =>
                have HN := (Fr.setCell wc ⟨q, j1, none⟩ (.int .i64 (d2 + 1)))
                exact ⟨k + 1, by omega, by go_num, HN.keep HGP.out (fun e => HPQ.out e), by rw [HF.out]; exact arr_set HGQ.out _, HBC.out.trans (HN.below HBC.out.size (fun i e => by have := HQ.out; have e' : i = q := e; omega))⟩
              case measure => simp [intOf]; omega
        · obtain rfl : k = L.length := by omega
          rw [List.take_length] at GP GQ
          clear gp gq
          have r1 := Lib.hid (arr_row GP.out HP.out (by rw [dO_len]; exact hN))
          have r2 := Lib.hid (arr_row GQ.out HQ.out (by rw [dI_len]; exact hN))
          go_wp2
          exact bodyPost_ret (v := .tuple #[.slice (some ⟨p, 0, none⟩) N N, .slice (some ⟨q, 0, none⟩) N N]) (by simp [results, Try.results11, go_sem]) rfl ⟨some ⟨p, 0, none⟩, N, some ⟨q, 0, none⟩, N, by rw [dO_len, dI_len], by have := r1.out; simpa only [dO_len] using this, by have := r2.out; simpa only [dI_len] using this, HB.out⟩
  · have hm : mayR n = false := by unfold mayR; simpa using hn
    have hd : degC n L = ([], []) := by unfold degC; rw [if_neg hn]
    rw [hd]
    clear hd
    go_enter Try.func11, Try.ntmps11
    go_wp2_with (go_at_call 22; refine (may_at _ _).mono ?_; rintro e w1 ⟨rfl, rfl⟩)
    exact bodyPost_ret (v := .tuple #[.slice none 0 0, .slice none 0 0]) (by simp [results, Try.results11, go_sem]) rfl ⟨_, _, _, _, rfl, World.ownsRow_nil _ _ _ _, World.ownsRow_nil _ _ _ _, Below.refl _ _⟩
end Go.Proofs.Ytfehlnmkeniniaa.E
