/- carousellaw02.Same, carousellaw10.Same: are lists, shards the same. Conditions: those that each theorem names. -/
import Derived.Test.YtdlmkdldmiiaiaaDcd
namespace Go.Proofs.Ytdlmkdldmiiaiaa.E
open Go.RowKit Go.Sort Go.Shelf
open Go.Proofs.Ytdlmkdldmiiaiaa.Ma Go.Proofs.Ytdlmkdldmiiaiaa.By Go.Proofs.Ytdlmkdldmiiaiaa.Enc
set_option linter.unusedVariables false
set_option linter.unusedSimpArgs false
set_option maxRecDepth 100000 in
set_option maxHeartbeats 2000000 in
theorem same2_at (A B : Option Addr) (c d : Nat) (L M : List Int) (w : World) (hL : Lies encI 1 w A L) (hM : Lies encI 1 w B M) (hl : L.length ≤ 1000000) (hm : M.length ≤ 1000000) :
    Calls Try.prog 28 #[.slice A L.length c, .slice B M.length d] w fun e w' => e = .returned (.bool (decide (L = M))) ∧ ∃ n, w' = w.drewN n := by
  obtain ⟨q, hq⟩ : ∃ q, decide (L = M) = q := ⟨_, rfl⟩
  rw [hq]
  have HQ := Lib.hid hq
  have HL := Lib.hid hL
  have HM := Lib.hid hM
  clear hq hL hM
  by_cases hlen : L.length = M.length
  case neg =>
    have HF := Lib.hid (show q = false by rw [← HQ.out]; exact decide_eq_false (fun e => hlen (by rw [e])))
    have e1 : ((L.length : Int) != (M.length : Int)) = true := by simp; omega
    clear hlen
    go_enter Try.func28, Try.ntmps28
    go_wp2
    go_ret
    exact ⟨by rw [HF.out]; rfl, 0, rfl⟩
  have e1 : ((L.length : Int) != (M.length : Int)) = false := by simp [hlen]
  have HLEN := Lib.hid hlen
  clear hlen
  go_enter Try.func28, Try.ntmps28
  go_wp2
  go_loopw [5] (fun i wi => ∃ k n : Nat, k ≤ L.length ∧ i = .int .i64 k ∧ wi = w.drewN n ∧ L.take k = M.take k) (fun i _ => L.length - (intOf i).toNat)
  case atStart => exact ⟨0, 0, by omega, rfl, rfl, rfl⟩
  case round =>
    obtain ⟨k, n, hk, rfl, rfl, ht⟩ := hrel
    have HT := Lib.hid ht
    by_cases hlt : k < L.length
    · obtain ⟨x, hx⟩ : ∃ x, L[k]? = some x := ⟨_, List.getElem?_eq_getElem hlt⟩
      obtain ⟨y, hy⟩ : ∃ x, M[k]? = some x := ⟨_, List.getElem?_eq_getElem (by rw [← HLEN.out]; exact hlt)⟩
      obtain ⟨g, o, e, _, q0⟩ := lies1 HL.out hx
      obtain ⟨g', o', e', _, r0⟩ := lies1 HM.out hy
      subst e e'
      have i1 : (k : Int) < (L.length : Int) := by omega
      have i2 : (k : Int) < (M.length : Int) := by have := HLEN.out; omega
      have i3 : (k : Int) < 1000000 := by omega
      have HK := Lib.hid hlt
      by_cases hxy : x = y
      · have HS := Lib.hid (show L.take (k + 1) = M.take (k + 1) by rw [List.take_add_one, List.take_add_one, hx, hy, ht, hxy])
        have hne : (x != y) = false := by simpa using hxy
        clear hx hy hxy ht hk hlt
        go_wp2
        go_quiet (fail)
        go_wp2
        go_roundw
        case rel => exact ⟨k + 1, n + nq, HK.out, by go_num, by first | rfl | exact World.drewN_drewN w n nq, HS.out⟩
        case measure => have := HK.out; simp [intOf]; omega
      · have HF := Lib.hid (show q = false by
          rw [← HQ.out]
          refine decide_eq_false (fun e => hxy ?_)
          rw [e, hy] at hx
          cases hx
          rfl)
        have hne : (x != y) = true := by simpa using hxy
        clear hx hy hxy ht hk hlt
        go_wp2
        go_quiet (fail)
        go_wp2
        go_ret
        exact ⟨by rw [HF.out]; rfl, n + nq, by first | rfl | exact World.drewN_drewN w n nq⟩
    · obtain rfl : k = L.length := by omega
      have HF := Lib.hid (show q = true by
        rw [← HQ.out]
        refine decide_eq_true ?_
        rw [List.take_length, HLEN.out, List.take_length] at ht
        exact ht)
      clear ht hk hlt
      go_wp2
      go_ret
      exact ⟨by rw [HF.out]; rfl, n, rfl⟩
theorem neq24 (x1 x2 y1 y2 : Int) (w : World) : (binOp .neq 24 (.agg #[.int .i64 x1, .int .i64 x2]) (.agg #[.int .i64 y1, .int .i64 y2])).run Try.prog w = .ok (.bool (!decide (x1 = y1 ∧ x2 = y2))) w := by
  have u3 := Try.underlying3
  have a3 := Try.isAgg3
  have z3 := Try.sizeOf3
  have hS : Try.prog.underlying 24 = some (.struct (Try.prog.fieldsOf 24)) := by kernel_rfl
  have hp : Try.prog.stoodInHeld 24 = false := by kernel_rfl
  rw [run_neq_struct, show (10000 : Nat) = 9999 + 1 from rfl, run_equalIn_agg w 9999 24 _ _ hS hp]
  simp only [Program.fieldsOf, Try.underlying24]
  go_simp
  by_cases h1 : x1 = y1 <;> by_cases h2 : x2 = y2 <;> simp [h1, h2]
def sameC (lo hi : Int) (O : List (List Int)) (lo' hi' : Int) (O' : List (List Int)) : Bool := decide (lo = lo' ∧ hi = hi' ∧ O = O')
theorem two_box (w : World) (lo hi : Int) (A : Option Addr) (n c : Nat) (lo' hi' : Int) (A' : Option Addr) (n' c' : Nat) : ∃ W, (w.alloc (.cells #[.int .i64 lo, .int .i64 hi, .slice A n c] 28)).alloc (.cells #[.int .i64 lo', .int .i64 hi', .slice A' n' c'] 28) = W ∧
    Box3 W w.heap.size lo hi (.slice A n c) ∧ Box3 W (w.heap.size + 1) lo' hi' (.slice A' n' c') ∧ Below w.heap.size w W := by
  obtain ⟨W1, h1, g1, b1, s1⟩ := box_new w (.cells #[.int .i64 lo, .int .i64 hi, .slice A n c] 28 (0, 0))
  obtain ⟨W2, h2, g2, b2, s2⟩ := box_new W1 (.cells #[.int .i64 lo', .int .i64 hi', .slice A' n' c'] 28 (0, 0))
  refine ⟨W2, by rw [← h2, ← h1], (Fr.of_below b2).keep g1 (fun e => e), by rw [← s1]; exact g2, b1.trans (b2.mono b1.size)⟩
set_option maxRecDepth 100000 in
set_option maxHeartbeats 2000000 in
theorem same_at (lo hi : Int) (A : Option Addr) (c : Nat) (O : List (List Int)) (lo' hi' : Int) (A' : Option Addr) (c' : Nat) (O' : List (List Int)) (w : World) (h1 : LiesR w A O) (h2 : LiesR w A' O') (hl : O.length ≤ 1000000) (hm : manyC O ≤ 1000000) (hl' : O'.length ≤ 1000000) (hm' : manyC O' ≤ 1000000) :
    Calls Try.prog 10 #[shV lo hi A O.length c, shV lo' hi' A' O'.length c'] w fun e w' => e = .returned (.bool (sameC lo hi O lo' hi' O')) ∧ Below w.heap.size w w' := by
  obtain ⟨W, hW, g1, g2, hb⟩ := two_box w lo hi A O.length c lo' hi' A' O'.length c'
  have HB := Lib.hid hb
  have HL := Lib.hid (h1.below hb (Nat.le_refl _))
  have HL' := Lib.hid (h2.below hb (Nat.le_refl _))
  have HM := Lib.hid (fun j L (h : O[j]? = some L) => Nat.le_trans (many_len h) hm)
  have HM' := Lib.hid (fun j L (h : O'[j]? = some L) => Nat.le_trans (many_len h) hm')
  have HN := Lib.hid hl
  have HN' := Lib.hid hl'
  obtain ⟨q0, q1, q2, _, _, _⟩ := g1.cells
  obtain ⟨r0, r1, r2, _, _, _⟩ := g2.cells
  have hne := neq24 lo hi lo' hi'
  unfold shV
  obtain ⟨q, hq⟩ : ∃ q, sameC lo hi O lo' hi' O' = q := ⟨_, rfl⟩
  rw [hq]
  have HQ := Lib.hid hq
  unfold sameC at HQ
  by_cases hp : lo = lo' ∧ hi = hi'
  case neg =>
    have HF := Lib.hid (show q = false by rw [← HQ.out]; exact decide_eq_false (fun e => hp ⟨e.1, e.2.1⟩))
    rw [show decide (lo = lo' ∧ hi = hi') = false from decide_eq_false hp] at hne
    clear hp h1 h2 hl hl' hm hm' hb hq g1 g2
    go_enter Try.func10, Try.ntmps10
    go_wp2
    go_ret
    exact ⟨by rw [HF.out]; rfl, HB.out⟩
  rw [show decide (lo = lo' ∧ hi = hi') = true from decide_eq_true hp] at hne
  have HP := Lib.hid hp
  by_cases hlen : O.length = O'.length
  case neg =>
    have HF := Lib.hid (show q = false by rw [← HQ.out]; exact decide_eq_false (fun e => hlen (by rw [e.2.2])))
    have e1 : ((O.length : Int) != (O'.length : Int)) = true := by simp; omega
    clear hp hlen h1 h2 hl hl' hm hm' hb hq g1 g2
    go_enter Try.func10, Try.ntmps10
    go_wp2
    go_ret
    exact ⟨by rw [HF.out]; rfl, HB.out⟩
  have e1 : ((O.length : Int) != (O'.length : Int)) = false := by simp [hlen]
  have HLEN := Lib.hid hlen
  have HG1 := Lib.hid g1
  have HG2 := Lib.hid g2
  clear hp hlen h1 h2 hl hl' hm hm' hb hq g1 g2
  go_enter Try.func10, Try.ntmps10
  go_wp2
  clear hne q0 q1 q2 r0 r1 r2
  go_loopw [5] (fun i wi => ∃ k : Nat, k ≤ O.length ∧ i = .int .i64 k ∧ Below W.heap.size W wi ∧ O.take k = O'.take k) (fun i _ => O.length - (intOf i).toNat)
  case atStart => exact ⟨0, by omega, rfl, Below.refl _ _, rfl⟩
  case round =>
    obtain ⟨k, hk, rfl, hbw, ht⟩ := hrel
    have HT := Lib.hid ht
    have HBn := Lib.hid (show Below w.heap.size w wr from HB.out.trans (hbw.mono HB.out.size))
    have HBW := Lib.hid hbw
    obtain ⟨q0, q1, q2, _, _, _⟩ := Box3.cells ((Fr.of_below hbw).keep HG1.out (fun e => e))
    obtain ⟨r0, r1, r2, _, _, _⟩ := Box3.cells ((Fr.of_below hbw).keep HG2.out (fun e => e))
    by_cases hlt : k < O.length
    · obtain ⟨x, hx⟩ : ∃ x, O[k]? = some x := ⟨_, List.getElem?_eq_getElem hlt⟩
      obtain ⟨y, hy⟩ : ∃ x, O'[k]? = some x := ⟨_, List.getElem?_eq_getElem (by rw [← HLEN.out]; exact hlt)⟩
      obtain ⟨g, o, A1, c1, e, _, p0, _, _, l1⟩ := liesR1 (HL.out.below hbw (Nat.le_refl _)) hx
      obtain ⟨g', o', A2, c2, e', _, p1, _, _, l2⟩ := liesR1 (HL'.out.below hbw (Nat.le_refl _)) hy
      subst e e'
      have i1 : (k : Int) < (O.length : Int) := by omega
      have i2 : (k : Int) < (O'.length : Int) := by have := HLEN.out; omega
      have i3 : (k : Int) < 1000000 := by have := HN.out; omega
      have HK := Lib.hid hlt
      have HS2 := Lib.hid (fun m => same2_at A1 A2 c1 c2 x y (wr.drewN m) l1 l2 (HM.out k x hx) (HM'.out k y hy))
      by_cases hxy : x = y
      · have HS := Lib.hid (show O.take (k + 1) = O'.take (k + 1) by rw [List.take_add_one, List.take_add_one, hx, hy, ht, hxy])
        rw [show decide (x = y) = true from decide_eq_true hxy] at HS2
        clear hx hy hxy ht hk hlt l1 l2 hbw
        go_wp2
        go_quiet ((go_at_call 28; exact Calls.quiet_of (HS2.out _)))
        go_wp2
        go_roundw
        case rel => exact ⟨k + 1, HK.out, by go_num, HBW.out.trans ((below_drewNg wr nq).mono HBW.out.size), HS.out⟩
        case measure => have := HK.out; simp [intOf]; omega
      · have HF := Lib.hid (show q = false by
          rw [← HQ.out]
          refine decide_eq_false (fun e => hxy ?_)
          rw [e.2.2, hy] at hx
          cases hx
          rfl)
        rw [show decide (x = y) = false from decide_eq_false hxy] at HS2
        clear hx hy hxy ht hk hlt l1 l2 hbw
        go_wp2
        go_quiet ((go_at_call 28; exact Calls.quiet_of (HS2.out _)))
        go_wp2
        go_ret
        exact ⟨by rw [HF.out]; rfl, HBn.out.trans ((below_drewNg wr nq).mono HBn.out.size)⟩
    · obtain rfl : k = O.length := by omega
      have HF := Lib.hid (show q = true by
        rw [← HQ.out]
        refine decide_eq_true ⟨HP.out.1, HP.out.2, ?_⟩
        rw [List.take_length, HLEN.out, List.take_length] at ht
        exact ht)
      clear ht hk hlt hbw
      go_wp2
      go_ret
      exact ⟨by rw [HF.out]; rfl, HBn.out⟩
end Go.Proofs.Ytdlmkdldmiiaiaa.E
