/- The document's First and Refuses. Conditions: those that each theorem names. -/
import Derived.Test.YtpmgkmodpneiiaaNx1
import Derived.Test.YtpmgkmodpneiiaaNx2
import Derived.Test.YtpmgkmodpneiiaaNx3
import Derived.Test.YtpmgkmodpneiiaaNx4
namespace Go.Proofs.Ytpmgkmodpneiiaa.E
open Go.RowKit Go.Sort Go.Shelf
open Go.Proofs.Ytpmgkmodpneiiaa.Ma
set_option linter.unusedVariables false
set_option linter.unusedSimpArgs false
def partF (F : List Nat) (n t : Nat) : List Nat := F.take t ++ List.replicate (n - t) 0
theorem partF_len {F : List Nat} {n t : Nat} (hF : F.length = n) (ht : t ≤ n) : (partF F n t).length = n := by unfold partF; simp; omega
theorem partF_set {F : List Nat} {n t : Nat} (hF : F.length = n) (ht : t < n) : (partF F n t).set t (at_ F t) = partF F n (t + 1) := by
  unfold partF
  have e : (F.take t).length = t := by simp; omega
  rw [List.set_append_right _ _ (by rw [e]; exact Nat.le_refl _), e, Nat.sub_self, List.take_add_one, at_get (by omega)]
  obtain ⟨q, hq⟩ : ∃ q, n - t = q + 1 := ⟨n - t - 1, by omega⟩
  rw [hq, show n - (t + 1) = q by omega, List.replicate_succ]
  simp
theorem set_set {F : List Nat} {t x y : Nat} : (F.set t x).set t y = F.set t y := by simp
set_option maxRecDepth 100000 in
set_option maxHeartbeats 4000000 in
theorem first_at (n : Nat) (k a p d : Int) (F : List Nat) (w : World) (h1 : 1 ≤ n) (hn2 : n ≤ 256) (hF : F.length = n)
    (hc : (k = 1 ∧ ∃ s : Nat, a = (s : Int) ∧ ∀ v, v < n → at_ F v = if v = s then 0 else farN) ∨ (k = 2 ∧ ∀ v, v < n → at_ F v = 4294967296) ∨ (k = 3 ∧ ∀ v, v < n → at_ F v = v) ∨ (k = 4 ∧ ∀ v, v < n → at_ F v = 1)) :
    Calls Try.prog 25 #[.int .i64 (n : Int), rq k a p d] w fun e w' => ∃ g, e = .returned (.slice (some ⟨g, 0, none⟩) n n) ∧ UB w' g F ∧ w.heap.size ≤ g ∧ Below w.heap.size w w' := by
  obtain ⟨W, hW, hbl, c0, c1, c2, c3⟩ := box4 w k a p d
  have HB := Lib.hid hbl
  have HKC := Lib.hid (fun (W2 : World) (hb : Below W.heap.size W W2) => And.intro (keep_cell c0 hb) (keep_cell c1 hb))
  have HN := Lib.hid (And.intro h1 hn2)
  have HF := Lib.hid hF
  have HC := Lib.hid hc
  have hmk := fun V => make_u n (by omega) V
  clear hbl h1 hn2 hF hc c2 c3
  go_enter Try.func25, Try.ntmps25
  go_upto_region 2 with (fail)
  obtain ⟨w3, hw3, gw3, b3, s3⟩ := box_new W (.cells (rowU 0 n 0).toArray 37 (0, 0))
  rw [hw3]
  have HB3 := Lib.hid b3
  have HSZ := Lib.hid s3
  have HS3 := Lib.hid (show UB w3 W.heap.size (partF F n 0) by rw [zero_u] at gw3; exact gw3)
  clear hw3 gw3 b3 s3 hmk c0 c1
  go_wp2
  go_loopw [6] (fun i wi => ∃ t : Nat, i = .int .i64 (t : Int) ∧ t ≤ n ∧ UB wi W.heap.size (partF F n t) ∧ Below W.heap.size W wi) (fun i _ => n - (intOf i).toNat)
  case atStart => exact ⟨0, rfl, by omega, HS3.out, HB3.out⟩
  case round =>
    obtain ⟨t, rfl, ht, m1, m2⟩ := hrel
    have M1 := Lib.hid m1
    have M2 := Lib.hid m2
    obtain ⟨y0, y1⟩ := HKC.out wr m2
    by_cases htn : t < n
    · have hpl : t < (partF F n t).length := by rw [partF_len HF.out ht]; exact htn
      have d0 := m1.cell hpl
      have f0 := m1.free hpl
      have hset := partF_set HF.out htn
      have k1 : (t : Int) < (n : Int) := by omega
      have k2 : (t : Int) < 1000 := by have := HN.out.2; omega
      have HT := Lib.hid htn
      have HFIN := Lib.hid (show ∀ x : Nat, at_ F t = x → UB (wr.setCell ⟨W.heap.size, t, none⟩ (.int .u64 (x : Int))) W.heap.size (partF F n (t + 1)) ∧ Below W.heap.size W (wr.setCell ⟨W.heap.size, t, none⟩ (.int .u64 (x : Int))) from fun x hx => by
        have hs := Fr.setCell wr ⟨W.heap.size, t, none⟩ (.int .u64 (x : Int))
        refine ⟨?_, M2.out.trans (hs.below M2.out.size (fun i e => by have e' : i = W.heap.size := e; omega))⟩
        have := M1.out.set t x
        rw [← hset, hx]
        exact this)
      rcases HC.out with ⟨rfl, s, rfl, hv⟩ | ⟨rfl, hv⟩ | ⟨rfl, hv⟩ | ⟨rfl, hv⟩
      · have hvt := hv t htn
        by_cases hts : t = s
        · rw [if_pos hts] at hvt
          have HVT := Lib.hid hvt
          have t1 : ((t : Int) == (s : Int)) = true := by rw [hts]; simp
          have HF2 := Lib.hid (show UB ((wr.setCell ⟨W.heap.size, t, none⟩ (.int .u64 18446744073709551615)).setCell ⟨W.heap.size, t, none⟩ (.int .u64 0)) W.heap.size (partF F n (t + 1)) ∧ Below W.heap.size W ((wr.setCell ⟨W.heap.size, t, none⟩ (.int .u64 18446744073709551615)).setCell ⟨W.heap.size, t, none⟩ (.int .u64 0)) from by
            have hs1 := Fr.setCell wr ⟨W.heap.size, t, none⟩ (.int .u64 ((farN : Nat) : Int))
            have hs2 := Fr.setCell (wr.setCell ⟨W.heap.size, t, none⟩ (.int .u64 ((farN : Nat) : Int))) ⟨W.heap.size, t, none⟩ (.int .u64 ((0 : Nat) : Int))
            have hb1 : Below W.heap.size W (wr.setCell ⟨W.heap.size, t, none⟩ (.int .u64 ((farN : Nat) : Int))) := M2.out.trans (hs1.below M2.out.size (fun i e => by have e' : i = W.heap.size := e; omega))
            refine ⟨?_, hb1.trans (hs2.below hb1.size (fun i e => by have e' : i = W.heap.size := e; omega))⟩
            have := (M1.out.set t farN).set t 0
            have e9 : ((partF F n t).set t farN).set t 0 = partF F n (t + 1) := by rw [set_set, ← hset, hvt]
            rw [e9] at this
            exact this)
          have HFA := Lib.hid (M1.out.set t farN)
          have HPL := Lib.hid hpl
          clear hts hv hvt hset hpl htn ht m1 m2
          go_upto_region 8 with (fail)
          obtain ⟨w6, hw6⟩ : ∃ V, wr.setCell ⟨W.heap.size, t, none⟩ (.int .u64 18446744073709551615) = V := ⟨_, rfl⟩
          rw [hw6] at HF2 ⊢
          have hu6 : UB w6 W.heap.size ((partF F n t).set t farN) := hw6 ▸ HFA.out
          have hb6 : Below W.heap.size W w6 := by
            rw [← hw6]
            exact M2.out.trans ((Fr.setCell wr ⟨W.heap.size, t, none⟩ _).below M2.out.size (fun i e => by have e' : i = W.heap.size := e; omega))
          obtain ⟨y0, y1⟩ := HKC.out w6 hb6
          have d0 := hu6.cell (v := t) (by rw [List.length_set]; exact HPL.out)
          have f0 := hu6.free (v := t) (by rw [List.length_set]; exact HPL.out)
          clear hw6 hu6 hb6
          go_wp2
          go_roundw
          case rel => exact ⟨t + 1, by go_num, HT.out, HF2.out⟩
          case measure => have := HT.out; simp [intOf]; omega
        · rw [if_neg hts] at hvt
          have t0 : (t : Int) ≠ (s : Int) := by omega
          have t1 : ((t : Int) == (s : Int)) = false := by simpa using t0
          have HF2 := Lib.hid (HFIN.out _ hvt)
          clear hts hv hvt hset hpl htn ht m1 m2 t0
          go_upto_region 8 with (fail)
          obtain ⟨w6, hw6⟩ : ∃ V, wr.setCell ⟨W.heap.size, t, none⟩ (.int .u64 18446744073709551615) = V := ⟨_, rfl⟩
          have hu6 : UB w6 W.heap.size (partF F n (t + 1)) ∧ Below W.heap.size W w6 := hw6 ▸ HF2.out
          rw [hw6]
          have HU6 := Lib.hid hu6
          obtain ⟨y0, y1⟩ := HKC.out w6 hu6.2
          clear hw6 hu6
          go_wp2
          go_roundw
          case rel => exact ⟨t + 1, by go_num, HT.out, HU6.out⟩
          case measure => have := HT.out; simp [intOf]; omega
      · have HF2 := Lib.hid (HFIN.out _ (hv t htn))
        clear hv hset hpl htn ht m1 m2
        go_wp2
        go_roundw
        case rel => exact ⟨t + 1, by go_num, HT.out, HF2.out⟩
        case measure => have := HT.out; simp [intOf]; omega
      · have HF2 := Lib.hid (HFIN.out _ (hv t htn))
        have t1 : IntKind.u64.wrap (t : Int) = (t : Int) := IntWalk.u64_in _ ⟨by omega, by omega⟩
        clear hv hset hpl htn ht m1 m2
        go_wp2
        go_roundw
        case rel => exact ⟨t + 1, by go_num, HT.out, HF2.out⟩
        case measure => have := HT.out; simp [intOf]; omega
      · have HF2 := Lib.hid (HFIN.out _ (hv t htn))
        clear hv hset hpl htn ht m1 m2
        go_wp2
        go_roundw
        case rel => exact ⟨t + 1, by go_num, HT.out, HF2.out⟩
        case measure => have := HT.out; simp [intOf]; omega
    · obtain rfl : t = n := by omega
      have HFF := Lib.hid (show partF F t t = F by unfold partF; rw [List.take_of_length_le (by rw [HF.out]; exact Nat.le_refl _), Nat.sub_self]; simp)
      clear ht htn m1 m2
      go_wp2
      go_ret
      exact ⟨W.heap.size, rfl, HFF.out ▸ M1.out, HB.out.size, HB.out.trans (M2.out.mono HB.out.size)⟩
theorem same_ok {A B : Option Addr} {c c' : Nat} {L : List Ed} {V : World} (h1 : Lies enc2 2 V A L) (h2 : Lies enc2 2 V B L) (hl : L.length ≤ 1000000) :
    Calls Try.prog 36 #[.slice A L.length c, .slice B L.length c'] V fun e w' => e = .returned (.bool true) ∧ Below V.heap.size V w' :=
  (same_at A B c c' L V h1 h2 hl).mono fun e w' ⟨he, m, hw⟩ => ⟨he, by rw [hw]; exact below_drewNg V m⟩
set_option maxRecDepth 100000 in
set_option maxHeartbeats 4000000 in
theorem refuses_ok (A : Option Addr) (c n : Nat) (L : List Ed) (k a p d : Int) (w : World) (hL : Lies enc2 2 w A L) (h : refC n L k a p = 0) :
    Calls Try.prog 24 #[.int .i64 (n : Int), .slice A L.length c, rq k a p d] w fun e w' => e = .returned (.int .i64 0) ∧ Below w.heap.size w w' := by
  obtain ⟨N, hN, hn1, hn2, hE, hc1, hc2, hck, hlen⟩ := refC_zero h
  obtain ⟨W, hW, hbl, c0, c1, c2, c3⟩ := box4 w k a p d
  have HB := Lib.hid hbl
  have HLW := Lib.hid (hL.below hbl (Nat.le_refl _))
  have HNO := refnorm_at A c n L W (hL.below hbl (Nat.le_refl _)) (by omega)
  rw [hc1, hc2] at HNO
  have HNN := Lib.hid HNO
  have HCK := fun V => rchk_at k a p d (n : Int) V
  rw [hck] at HCK
  have HCH := Lib.hid HCK
  have HKC := Lib.hid (fun (W2 : World) (hb : Below W.heap.size W W2) => And.intro (keep_cell c0 hb) (And.intro (keep_cell c1 hb) (And.intro (keep_cell c2 hb) (keep_cell c3 hb))))
  have HSA := Lib.hid (fun (c' : Nat) (B : Option Addr) (V : World) (h1 : Lies enc2 2 V A L) (h2 : Lies enc2 2 V B L) => same_ok (c := c) (c' := c') h1 h2 (by omega))
  clear hL h hN hn1 hn2 hE hc1 hc2 hck hlen hbl HNO HCK
  go_enter Try.func24, Try.ntmps24
  go_wp2_with (first
    | (have _ := HB3; go_at_call 20; refine (HCH.out _).mono ?_; rintro e w4 ⟨rfl, hb4⟩; have HB4 := Lib.hid (HB3.out.trans (hb4.mono HB3.out.size)); clear hb4)
    | (have _ := HR; go_at_call 36; refine (HSA.out c9 A9 _ HLA.out HM9.out).mono ?_; rintro e w3 ⟨rfl, hb3⟩; have HB3 := Lib.hid (HB2.out.trans (hb3.mono HB2.out.size)); obtain ⟨z0, z1, z2, z3⟩ := HKC.out w3 HB3.out; clear hb3)
    | (go_at_call 18; refine HNN.out.mono ?_; rintro e w2 ⟨v', rfl, hr, hb2⟩; have HR := Lib.hid hr; have HB2 := Lib.hid hb2; obtain ⟨A9, c9, rfl, _, _⟩ := row_open enc2_len hr; have HLA := Lib.hid (HLW.out.below hb2 (Nat.le_refl _)); have HM9 := Lib.hid (row_lies enc2_len hr); clear hr hb2))
  go_ret
  exact ⟨rfl, HB.out.trans (HB4.out.mono HB.out.size)⟩
end Go.Proofs.Ytpmgkmodpneiiaa.E
