/- Remove and Age. Conditions: those that each theorem names. -/
import Derived.Test.YtcallnhkojgnmaaDel
namespace Go.Proofs.Ytcallnhkojgnmaa.Q
open Go.RowKit Go.Sort Go.Shelf
open Go.Proofs.Ytcallnhkojgnmaa.Ma
set_option linter.unusedVariables false
set_option linter.unusedSimpArgs false
set_option maxHeartbeats 1000000 in
theorem rem_at (B b : Nat) (L : List It) (v : Value) (id : Int) (w : World) (h : QAt B w b L v) (hlen : L.length ≤ 8) :
    Calls Try.prog 13 #[.pointer (some ⟨b, 0, none⟩), .int .i64 id] w fun e w' => e = .returned (.int .i64 (remF L id).1) ∧ ∃ v', QAt B w' b (remF L id).2 v' ∧ v'.ownBlock = v.ownBlock ∧ Fr (fun k => k = b ∨ v.ownBlock = some k) w w' := by
  have hf := find_at B b L v id w h (by omega)
  have q0 := h.c0
  have HQ := Lib.hid h
  have hb := lt_of_heap h.1
  cases hh : hasQ L id
  · rw [plc_out hh] at hf
    rw [show remF L id = (4, L) by unfold remF; rw [if_neg (by rw [hh]; simp)]]
    have HF := Lib.hid hf
    clear h hh hf
    go_enter Try.func13, Try.ntmps13
    go_wp2_with (first | (go_at_call 23; refine (none_at b _ q0).mono ?_; rintro e w' ⟨rfl, rfl⟩) | (go_at_call 24; refine HF.out.mono ?_; rintro e w2 ⟨rfl, hb2⟩))
    go_ret
    exact ⟨rfl, v, HQ.out.below hb2, rfl, (Fr.of_below hb2).mono (fun _ h => h.elim)⟩
  · rw [show remF L id = (0, L.eraseIdx (L.findIdx fun p => p.1 == id)) by unfold remF; rw [if_pos hh]]
    rw [plc_idx hh] at hf
    have hlt : (L.findIdx fun p => p.1 == id) < L.length := by
      obtain ⟨q, hq, hid⟩ := hasQ_iff.1 hh
      exact List.findIdx_lt_length_of_exists ⟨q, hq, by simpa using hid⟩
    obtain ⟨j, hj⟩ : ∃ j, (L.findIdx fun p => p.1 == id) = j := ⟨_, rfl⟩
    rw [hj] at hf hlt ⊢
    obtain ⟨g, c, rfl, hBg, hg, hc, _, _⟩ := row_own enc4_len h.2 (List.getElem?_eq_getElem hlt)
    have HF := Lib.hid hf
    have hne := h.ne g rfl
    have hw1 : IntKind.i64.wrap ((j : Int) + 1) = (j : Int) + 1 := IntWalk.i64_in _ ⟨by omega, by omega⟩
    have b1 : ¬ (j : Int) < 0 := by omega
    clear h hh hf hj
    go_enter Try.func13, Try.ntmps13
    go_wp2_with (first | (go_at_call 23; refine (none_at b _ q0).mono ?_; rintro e w' ⟨rfl, rfl⟩) | (go_at_call 24; refine HF.out.mono ?_; rintro e w2 ⟨rfl, hb2⟩; have q2 := (HQ.out.below hb2).c1; have Q2 := Lib.hid (HQ.out.below hb2); have HB2 := Lib.hid hb2; have lb2 := lt_of_heap Q2.out.1; clear hb2) | (go_at_call 26; refine (delete_at B g c j L w2 Q2.out.2 hlt hlen).mono ?_; rintro e w3 ⟨v3, rfl, hr3, ho3, hf3⟩; have k1 := hf3.cell q2 lb2 (fun e => hne e.symm); have kf := hf3.frozen Q2.out.f1 lb2 (fun e => hne e.symm); obtain ⟨A3, c3, rfl, _, _⟩ := row_open enc4_len hr3; have HR3 := Lib.hid hr3; have HF3 := Lib.hid hf3; clear hr3 hf3))
    go_ret
    obtain ⟨s1, s2⟩ := Q2.out.store HF3.out (fun e => hne e.symm) HR3.out (fun g' hg' e => by rw [ho3] at hg'; cases hg'; exact hne e)
    exact ⟨rfl, _, s1, ho3, ((Fr.of_below HB2.out).mono (fun _ h => h.elim)).trans (s2.mono (fun k hk => by rcases hk with e | e; (rw [e]; exact .inr rfl); exact .inl e))⟩
theorem region_tail {P : Program} {id : Nat} {Q : Exit → Act → World → Prop} {a : Act} {w : World} {l : List Oper} (n : Nat) (hm : P.follows .mixedOrders = true) (hB : Region.lexTailB .any l.toArray n = true)
    (h : ∀ wd : World, wd = w.drew → wpStill P l.toArray wd (fun a' => wpList P l.toArray Q (l.drop n) a' wd) (l.take n) a) : (Code.region id l.toArray true).wp P Q a w :=
  wp_region_still_tail n hm hB (h w.drew rfl)
/-- A tick. -/
def tick (x : It) : It := (x.1, x.2.1, x.2.2.1, min (x.2.2.2 + 1) 1073741824)
def ageF (L : List It) : List It := L.map tick
def upA (L : List It) (j : Nat) : List It := ageF (L.take j) ++ L.drop j
theorem upA_length (L : List It) (j : Nat) : (upA L j).length = L.length := by
  unfold upA ageF
  rw [List.length_append, List.length_map, List.length_take, List.length_drop]
  omega
theorem upA_at {L : List It} {j : Nat} {p : It} (h : L[j]? = some p) : (upA L j)[j]? = some p := by
  have hj := (List.getElem?_eq_some_iff.1 h).1
  unfold upA ageF
  rw [List.getElem?_append_right (by rw [List.length_map, List.length_take]; omega), List.length_map, List.length_take, List.getElem?_drop]
  rw [show j + (j - min j L.length) = j by omega, h]
theorem upA_succ {L : List It} {j : Nat} {p : It} (h : L[j]? = some p) : (upA L j).set j (tick p) = upA L (j + 1) := by
  have hj := (List.getElem?_eq_some_iff.1 h).1
  unfold upA
  have e : L.drop j = p :: L.drop (j + 1) := by
    rw [List.drop_eq_getElem_cons hj]
    congr 1
    exact (List.getElem?_eq_some_iff.1 h).2
  have hl : (ageF (L.take j)).length = j := by unfold ageF; rw [List.length_map, List.length_take]; omega
  rw [e, List.set_append_right _ _ (by omega), hl, Nat.sub_self, List.take_add_one, h]
  simp [ageF]
theorem upA_all (L : List It) : upA L L.length = ageF L := by simp [upA]
theorem upA_zero (L : List It) : upA L 0 = L := by simp [upA, ageF]
set_option maxHeartbeats 1000000 in
theorem age_at (B b : Nat) (L : List It) (v : Value) (w : World) (h : QAt B w b L v) (hlen : L.length ≤ 8) (hm : ∀ x ∈ L, may x) :
    Calls Try.prog 15 #[.pointer (some ⟨b, 0, none⟩)] w fun e w' => e = .returned (.int .i64 0) ∧ QAt B w' b (ageF L) v ∧ Fr (fun k => v.ownBlock = some k) w w' := by
  have q0 := h.c0
  have q1 := h.c1
  have HQ := Lib.hid h
  obtain ⟨A, c, rfl, hlc, hcm⟩ := row_open enc4_len h.2
  have HM := Lib.hid hm
  clear h hm
  go_enter Try.func15, Try.ntmps15
  go_wp2_with (go_at_call 23; refine (none_at b _ q0).mono ?_; rintro e w' ⟨rfl, rfl⟩)
  go_loopw [3, 4, 12] (fun _ _ i wr => ∃ j : Nat, j ≤ L.length ∧ i = .int .i64 j ∧ QAt B wr b (upA L j) (.slice A L.length c) ∧ Fr (fun k => (Value.slice A L.length c).ownBlock = some k) w wr) (fun _ _ i _ => L.length - (intOf i).toNat)
  case atStart => exact ⟨0, by omega, rfl, by rw [upA_zero]; exact HQ.out, Fr.refl _ _⟩
  case round =>
    obtain ⟨j, hj, rfl, hQ, hF⟩ := hrel
    have k1 := hQ.c1
    have HQj := Lib.hid hQ
    have HF := Lib.hid hF
    clear q0 q1
    by_cases hlt : j < L.length
    · obtain ⟨⟨x1, x2, x3, x4⟩, hx⟩ : ∃ p, L[j]? = some p := ⟨L[j], List.getElem?_eq_getElem _⟩
      have hmay := HM.out _ (List.mem_of_getElem? hx)
      unfold may at hmay
      dsimp only at hmay
      obtain ⟨g, c', e, _, _, _, _, hcell⟩ := row_own enc4_len (by have := hQ.2; exact this) (upA_at hx)
      rw [upA_length] at e
      cases e
      obtain ⟨q3, f3⟩ := hcell 3 _ rfl
      have HX := Lib.hid hx
      have m1 := hmay.2.2.1
      have m2 := hmay.2.2.2
      clear hx hQ hF hcell hmay
      go_wp2
      go_roundw
      case rel =>
        have hrow := HQj.out.2
        rw [← upA_length L j] at hrow
        have hs := row_set enc4_len (i := 3) (y := tick (x1, x2, x3, x4)) (u := .int .i64 (min (x4 + 1) 1073741824)) hrow (upA_at HX.out) (by omega) rfl
        rw [upA_succ HX.out, upA_length, ← upA_length L (j + 1)] at hs
        refine ⟨j + 1, by omega, by go_num, ⟨?_, ?_⟩, HF.out.trans ((Fr.setCell wr ⟨g, j * 4 + 3, none⟩ (.int .i64 (min (x4 + 1) 1073741824))).mono (fun k hk => by rw [show k = g from hk]; rfl))⟩
        · exact (Fr.setCell wr ⟨g, j * 4 + 3, none⟩ (.int .i64 (min (x4 + 1) 1073741824))).keep HQj.out.1 (fun e => HQj.out.ne g rfl e.symm)
        · rw [upA_length] at hs ⊢
          exact hs
      case measure => simp [intOf]; omega
    · obtain rfl : j = L.length := by omega
      clear hQ hF
      go_wp2
      go_ret
      exact ⟨rfl, by rw [← upA_all]; exact HQj.out, HF.out⟩
theorem set4 {w : World} {b : Nat} {a0 a1 a2 a3 : Value} {T : TypeId} (h : w.heap[b]? = some (.cells #[a0, a1, a2, a3] T (0, 0))) (u0 u1 u2 u3 : Value) :
    ((((w.setCell ⟨b, 0, none⟩ u0).setCell ⟨b, 1, none⟩ u1).setCell ⟨b, 2, none⟩ u2).setCell ⟨b, 3, none⟩ u3).heap[b]? = some (.cells #[u0, u1, u2, u3] T (0, 0)) ∧ Fr (fun k => k = b) w ((((w.setCell ⟨b, 0, none⟩ u0).setCell ⟨b, 1, none⟩ u1).setCell ⟨b, 2, none⟩ u2).setCell ⟨b, 3, none⟩ u3) := by
  have key : ∀ (V : World) (i : Nat) (u : Value), Fr (fun k => k = b) V (V.setCell ⟨b, i, none⟩ u) := fun V i u => Fr.setCell V ⟨b, i, none⟩ u
  refine ⟨?_, (((key w 0 u0).trans (key _ 1 u1)).trans (key _ 2 u2)).trans (key _ 3 u3)⟩
  rw [heap_setCell_at (heap_setCell_at (heap_setCell_at (heap_setCell_at h u0) u1) u2) u3]
  rfl
/-- Which comes first. -/
def minOf : List It → It
  | [] => (0, 0, 0, 0)
  | x :: r => r.foldl (fun m y => if cf y m < 0 then y else m) x
theorem minOf_succ {L : List It} {j : Nat} {p : It} (h : L[j]? = some p) (h1 : 1 ≤ j) : minOf (L.take (j + 1)) = if cf p (minOf (L.take j)) < 0 then p else minOf (L.take j) := by
  cases L with
  | nil => simp at h
  | cons x r =>
    obtain ⟨i, rfl⟩ : ∃ i, j = i + 1 := ⟨j - 1, by omega⟩
    have h' : r[i]? = some p := by simpa using h
    simp only [List.take_succ_cons, minOf]
    rw [List.take_add_one, h', Option.toList_some, List.foldl_append]
    rfl
theorem minOf_one {L : List It} {p : It} (h : L[0]? = some p) : minOf (L.take 1) = p := by
  cases L with
  | nil => simp at h
  | cons x r => simp at h; subst h; rfl
theorem cmp_val (x1 x2 x3 x4 y1 y2 y3 y4 : Int) (w : World) : Calls Try.prog 29 #[.agg #[.int .i64 x1, .int .i64 x2, .int .i64 x3, .int .i64 x4], .agg #[.int .i64 y1, .int .i64 y2, .int .i64 y3, .int .i64 y4]] w fun e w' => e = .returned (.int .i64 (cf (x1, x2, x3, x4) (y1, y2, y3, y4))) ∧ Below w.heap.size w w' :=
  (compare_any (x1, x2, x3, x4) (y1, y2, y3, y4) w).mono fun _ _ ⟨he, hg⟩ => ⟨he, hg.below⟩
set_option maxHeartbeats 2000000 in
theorem minf_at (A : Option Addr) (c : Nat) (L : List It) (w : World) (hL : Lies enc4 4 w A L) (h0 : 0 < L.length) (hlen : L.length ≤ 8) :
    Calls Try.prog 30 #[.slice A L.length c, .func (.func 29) #[] #[]] w fun e w' => ∃ m1 m2 m3 m4, minOf L = (m1, m2, m3, m4) ∧ e = .returned (.agg #[.int .i64 m1, .int .i64 m2, .int .i64 m3, .int .i64 m4]) ∧ Below w.heap.size w w' := by
  obtain ⟨⟨x1, x2, x3, x4⟩, hx⟩ : ∃ p, L[0]? = some p := ⟨L[0], List.getElem?_eq_getElem _⟩
  obtain ⟨b, o, rfl, hb, q0, q1, q2, q3⟩ := lies4 hL hx
  have HL := Lib.hid hL
  have HX := Lib.hid hx
  have h1 : ¬ (L.length : Int) < 1 := by omega
  have h2 : (0 : Int) < (L.length : Int) := by omega
  simp only [Nat.zero_mul, Nat.add_zero] at q0 q1 q2 q3
  clear hL hx
  go_enter Try.func30, Try.ntmps30
  go_wp2
  obtain ⟨W, hW, g0, g1, hsz, hbl⟩ : ∃ W : World, (w.alloc (.cells #[.int .i64 0, .int .i64 0, .int .i64 0, .int .i64 0] 31)).alloc (.cells #[.int .i64 x1, .int .i64 x2, .int .i64 x3, .int .i64 x4] 31) = W ∧ W.heap[w.heap.size]? = some (.cells #[.int .i64 0, .int .i64 0, .int .i64 0, .int .i64 0] 31 (0, 0)) ∧ W.heap[w.heap.size + 1]? = some (.cells #[.int .i64 x1, .int .i64 x2, .int .i64 x3, .int .i64 x4] 31 (0, 0)) ∧ W.heap.size = w.heap.size + 2 ∧ Below w.heap.size w W := by
    refine ⟨_, rfl, ?_, ?_, by simp, ((Below.refl _ _).alloc (Nat.le_refl _) _).alloc (by simp) _⟩
    · rw [Below.heap_alloc _ _ _ (by simp)]
      exact heap_alloc_new w _
    · have := heap_alloc_new (w.alloc (.cells #[.int .i64 0, .int .i64 0, .int .i64 0, .int .i64 0] 31)) (.cells #[.int .i64 x1, .int .i64 x2, .int .i64 x3, .int .i64 x4] 31 (0, 0))
      rwa [show (w.alloc (.cells #[.int .i64 0, .int .i64 0, .int .i64 0, .int .i64 0] 31)).heap.size = w.heap.size + 1 by simp] at this
  rw [hW]
  obtain ⟨bx, hbx⟩ : ∃ k, w.heap.size = k := ⟨_, rfl⟩
  have HBX := Lib.hid hbx
  rw [hbx] at g0 g1 hsz ⊢
  go_loopw [6] (fun i wr => ∃ (j : Nat) (m1 m2 m3 m4 : Int), 1 ≤ j ∧ j ≤ L.length ∧ i = .int .i64 j ∧ minOf (L.take j) = (m1, m2, m3, m4) ∧ wr.heap[bx]? = some (.cells #[.int .i64 0, .int .i64 0, .int .i64 0, .int .i64 0] 31 (0, 0)) ∧ wr.heap[bx + 1]? = some (.cells #[.int .i64 m1, .int .i64 m2, .int .i64 m3, .int .i64 m4] 31 (0, 0)) ∧ Below w.heap.size w wr) (fun i _ => L.length - (intOf i).toNat)
  case atStart => exact ⟨1, x1, x2, x3, x4, by omega, by omega, rfl, minOf_one HX.out, g0, g1, hbl⟩
  case round =>
    obtain ⟨j, m1, m2, m3, m4, hj1, hj, rfl, hmin, r0, r1, hbr⟩ := hrel
    have HMn := Lib.hid hmin
    have HB := Lib.hid hbr
    have R0 := Lib.hid r0
    have R1 := Lib.hid r1
    have d0 := cell_of_heap (i := 0) r1 rfl
    have d1 := cell_of_heap (i := 1) r1 rfl
    have d2 := cell_of_heap (i := 2) r1 rfl
    have d3 := cell_of_heap (i := 3) r1 rfl
    clear g0 g1 hsz hbl hmin hbr r0 r1 q0 q1 q2 q3 hbx hW
    by_cases hlt : j < L.length
    · obtain ⟨⟨y1, y2, y3, y4⟩, hy⟩ : ∃ p, L[j]? = some p := ⟨L[j], List.getElem?_eq_getElem _⟩
      obtain ⟨b', o', eb, hb', p0, p1, p2, p3⟩ := lies4 (HL.out.below HB.out (Nat.le_refl _)) hy
      cases eb
      have hcv := cmp_val y1 y2 y3 y4 m1 m2 m3 m4
      have HY := Lib.hid (minOf_succ hy hj1)
      rw [HMn.out] at HY
      have HYx := Lib.hid hy
      generalize cf (y1, y2, y3, y4) (m1, m2, m3, m4) = r at hcv HY
      have HC := Lib.hid hcv
      clear hy hcv
      go_wp2
      refine region_tail 6 (by kernel_rfl) (by kernel_rfl) fun wd hwd => ?_
      simp only [List.take_succ_cons, List.take_zero, List.drop_succ_cons, List.drop_zero]
      have HWd := Lib.hid hwd
      have p0' : wd.cell? ⟨b, o + j * 4, none⟩ = some (.int .i64 y1) := by rw [hwd]; exact p0
      have p1' : wd.cell? ⟨b, o + j * 4 + 1, none⟩ = some (.int .i64 y2) := by rw [hwd]; exact p1
      have p2' : wd.cell? ⟨b, o + j * 4 + 2, none⟩ = some (.int .i64 y3) := by rw [hwd]; exact p2
      have p3' : wd.cell? ⟨b, o + j * 4 + 3, none⟩ = some (.int .i64 y4) := by rw [hwd]; exact p3
      have d0' : wd.cell? ⟨bx + 1, 0, none⟩ = some (.int .i64 m1) := by rw [hwd]; exact d0
      have d1' : wd.cell? ⟨bx + 1, 1, none⟩ = some (.int .i64 m2) := by rw [hwd]; exact d1
      have d2' : wd.cell? ⟨bx + 1, 2, none⟩ = some (.int .i64 m3) := by rw [hwd]; exact d2
      have d3' : wd.cell? ⟨bx + 1, 3, none⟩ = some (.int .i64 m4) := by rw [hwd]; exact d3
      have BD := Lib.hid (show Below w.heap.size w wd by rw [hwd]; exact HB.out.drew)
      have S0 := Lib.hid (show wd.heap[bx]? = some (.cells #[.int .i64 0, .int .i64 0, .int .i64 0, .int .i64 0] 31 (0, 0)) from hwd ▸ R0.out)
      have S1 := Lib.hid (show wd.heap[bx + 1]? = some (.cells #[.int .i64 m1, .int .i64 m2, .int .i64 m3, .int .i64 m4] 31 (0, 0)) from hwd ▸ R1.out)
      have L0 := Lib.hid (HL.out.below BD.out (Nat.le_refl _))
      clear hwd p0 p1 p2 p3 d0 d1 d2 d3
      repeat still_step
      refine wpStill_nil ?_
      have lx : bx < wd.heap.size := lt_of_heap S0.out
      have lx1 : bx + 1 < wd.heap.size := lt_of_heap S1.out
      by_cases hr : r < 0
      · rw [if_pos hr] at HY
        go_wp2_with (go_at_call 29; refine (HC.out wd).mono ?_; rintro e w2 ⟨rfl, hb2⟩; obtain ⟨_, _, eb2, hb'', t0, t1, t2, t3⟩ := lies4 (L0.out.below hb2 (Nat.le_refl _)) HYx.out; cases eb2; have T0 := Lib.hid ((hb2.block bx lx).trans S0.out); have T1 := Lib.hid ((hb2.block (bx + 1) lx1).trans S1.out); have B2 := Lib.hid (BD.out.trans (hb2.mono (by have := BD.out.size; omega))); have c0 := cell_of_heap (i := 0) T1.out rfl; have c1 := cell_of_heap (i := 1) T1.out rfl; have c2 := cell_of_heap (i := 2) T1.out rfl; have c3 := cell_of_heap (i := 3) T1.out rfl; have f0 := free_of_heap (i := 0) T1.out (by simp); have f1 := free_of_heap (i := 1) T1.out (by simp); have f2 := free_of_heap (i := 2) T1.out (by simp); have f3 := free_of_heap (i := 3) T1.out (by simp); clear hb2)
        go_roundw
        case rel =>
          obtain ⟨s1, s2⟩ := set4 T1.out (.int .i64 y1) (.int .i64 y2) (.int .i64 y3) (.int .i64 y4)
          refine ⟨j + 1, y1, y2, y3, y4, by omega, by omega, by go_num, HY.out, s2.keep T0.out (fun e => by have e' : bx = bx + 1 := e; omega), s1, B2.out.trans (s2.below B2.out.size (fun k hk => by have := HBX.out; have e' : k = bx + 1 := hk; omega))⟩
        case measure => simp [intOf]; omega
      · rw [if_neg hr] at HY
        go_wp2_with (go_at_call 29; refine (HC.out wd).mono ?_; rintro e w2 ⟨rfl, hb2⟩; have T0 := Lib.hid ((hb2.block bx lx).trans S0.out); have T1 := Lib.hid ((hb2.block (bx + 1) lx1).trans S1.out); have B2 := Lib.hid (BD.out.trans (hb2.mono (by have := BD.out.size; omega))); clear hb2)
        go_roundw
        case rel => exact ⟨j + 1, m1, m2, m3, m4, by omega, by omega, by go_num, HY.out, T0.out, T1.out, B2.out⟩
        case measure => simp [intOf]; omega
    · obtain rfl : j = L.length := by omega
      rw [List.take_length] at HMn
      have c0 := cell_of_heap (i := 0) R0.out rfl
      have c1 := cell_of_heap (i := 1) R0.out rfl
      have c2 := cell_of_heap (i := 2) R0.out rfl
      have c3 := cell_of_heap (i := 3) R0.out rfl
      have f0 := free_of_heap (i := 0) R0.out (by simp)
      have f1 := free_of_heap (i := 1) R0.out (by simp)
      have f2 := free_of_heap (i := 2) R0.out (by simp)
      have f3 := free_of_heap (i := 3) R0.out (by simp)
      go_wp2
      obtain ⟨s1, s2⟩ := set4 R0.out (.int .i64 m1) (.int .i64 m2) (.int .i64 m3) (.int .i64 m4)
      generalize ((((wr.setCell ⟨bx, 0, none⟩ (.int .i64 m1)).setCell ⟨bx, 1, none⟩ (.int .i64 m2)).setCell ⟨bx, 2, none⟩ (.int .i64 m3)).setCell ⟨bx, 3, none⟩ (.int .i64 m4)) = Wf at s1 s2 ⊢
      have r0 := cell_of_heap (i := 0) s1 rfl
      have r1 := cell_of_heap (i := 1) s1 rfl
      have r2 := cell_of_heap (i := 2) s1 rfl
      have r3 := cell_of_heap (i := 3) s1 rfl
      exact bodyPost_ret (v := .agg #[.int .i64 m1, .int .i64 m2, .int .i64 m3, .int .i64 m4]) (by simp [results, Try.results30, go_sem, r0, r1, r2, r3]) rfl ⟨m1, m2, m3, m4, HMn.out, rfl, HB.out.trans (s2.below HB.out.size (fun k hk => by have := HBX.out; have e' : k = bx := hk; omega))⟩
end Go.Proofs.Ytcallnhkojgnmaa.Q
