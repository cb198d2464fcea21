/- The document's Next, kind 1. Conditions: those that each theorem names. -/
import Derived.Test.YtpmgkmodpneiiaaNxc
namespace Go.Proofs.Ytpmgkmodpneiiaa.E
open Go.RowKit Go.Sort Go.Shelf
open Go.Proofs.Ytpmgkmodpneiiaa.Ma
set_option linter.unusedVariables false
set_option linter.unusedSimpArgs false
attribute [local irreducible] wpQuiet wpStill
set_option maxRecDepth 100000 in
set_option maxHeartbeats 4000000 in
theorem next1_at (g n c : Nat) (now : List Nat) (A : Option Addr) (cL : Nat) (L : List Ed) (a p d : Int) (w : World) (hPB : PB w g now) (hlen : now.length = n) (h1 : 1 ≤ n) (hn2 : n ≤ 256) (hL : Lies enc2 2 w A L) (hE : Edges n L) (hl : L.length ≤ 5000) (hsm : Small now) :
    Calls Try.prog 26 #[.slice (some ⟨g, 0, none⟩) n c, .slice A L.length cL, rq 1 a p d] w fun e w' => ∃ g2 c2, e = .returned (.slice (some ⟨g2, 0, none⟩) n c2) ∧ PB w' g2 (nextB now L) ∧ w.heap.size ≤ g2 ∧ Below w.heap.size w w' := by
  obtain ⟨W, hW, hbl, c0, c1, c2', c3⟩ := box4 w 1 a p d
  have HB := Lib.hid hbl
  have HPB := Lib.hid (hPB.fr (Fr.of_below hbl) (fun h => h))
  have HLW := Lib.hid (hL.below hbl (Nat.le_refl _))
  have HLN := Lib.hid hlen
  have HN := Lib.hid (And.intro h1 hn2)
  have HE := Lib.hid hE
  have HL5 := Lib.hid hl
  have HSM := Lib.hid hsm
  have HKC := Lib.hid (fun (W2 : World) (hb : Below W.heap.size W W2) => And.intro (keep_cell c0 hb) (keep_cell c1 hb))
  have HPA := Lib.hid (show PB (W.alloc (.cells #[] 37 (0, 0))) g now from HPB.out.fr (Fr.alloc W _) (fun h => h))
  have HRE := Lib.hid (row_empty (k := 1) W 37 W.heap.size (Nat.le_refl _))
  have HSA := Lib.hid (show W.heap.size ≤ (W.alloc (.cells #[] 37 (0, 0))).heap.size by simp)
  have hmk := fun V => make_u n (by omega) V
  clear hPB hL hlen h1 hn2 hE hl hsm hbl c2' c3
  go_enter Try.func26, Try.ntmps26
  go_upto_region 3 with (at_builtin; refine wp_appU rfl _ _ rfl W.heap.size _ rfl HRE.out g n c now rfl HLN.out HPA.out HN.out.1 (Nat.le_trans HN.out.2 (by decide)) HSA.out ?_; intro g2 cc2 w2 hp2 hf2 hg2; have HP2 := Lib.hid hp2; have HG2 := Lib.hid hg2; have HB2 := Lib.hid (((Below.refl W.heap.size W).alloc (Nat.le_refl _) (.cells #[] 37 (0, 0))).trans (hf2.below HSA.out (fun i e => (HRE.out.lt i e).1))); clear hp2 hf2 hg2)
  obtain ⟨w3, hw3, gw3, b3, s3⟩ := box_new w2 (.cells (rowU 0 n 0).toArray 37 (0, 0))
  rw [hw3]
  obtain ⟨gs, hgs⟩ : ∃ gs, w2.heap.size = gs := ⟨_, rfl⟩
  have HB23 := Lib.hid b3
  have HNE := Lib.hid (show g2 ≠ gs by have := HP2.out.lt; omega)
  have HGS := Lib.hid (show W.heap.size ≤ gs from hgs ▸ HB2.out.size)
  rw [hgs] at gw3 ⊢
  have HS3 := Lib.hid (show UB w3 gs (List.replicate n 0) by rw [zero_u] at gw3; exact gw3)
  have HP3 := Lib.hid (show PB w3 g2 now from HP2.out.fr (Fr.of_below HB23.out) (fun h => h))
  have HB3 := Lib.hid (show Below W.heap.size W w3 from HB2.out.trans (HB23.out.mono HB2.out.size))
  have HOLD := Lib.hid (show ∀ V, Below W.heap.size W V → PB V g now ∧ Lies enc2 2 V A L ∧ V.cell? ⟨w.heap.size, 0, none⟩ = some (.int .i64 1) ∧ V.cell? ⟨w.heap.size, 1, none⟩ = some (.int .i64 a) from fun V hV => ⟨HPB.out.fr (Fr.of_below hV) (fun h => h), HLW.out.below hV (Nat.le_refl _), (HKC.out V hV).1, (HKC.out V hV).2⟩)
  clear hw3 gw3 b3 s3 hgs hmk c0 c1
  go_wp2
  go_loopw [9] (fun i wi => ∃ j : Nat, i = .int .i64 (j : Int) ∧ j ≤ L.length ∧ PB wi g2 ((L.take j).foldl (stepB now) now) ∧ UB wi gs (List.replicate n 0) ∧ Below W.heap.size W wi) (fun i _ => L.length - (intOf i).toNat)
  case atStart => exact ⟨0, rfl, by omega, HP3.out, HS3.out, HB3.out⟩
  case round =>
    obtain ⟨j, rfl, hj, m1, m2, m3⟩ := hrel
    have M1 := Lib.hid m1
    have M2 := Lib.hid m2
    have M3 := Lib.hid m3
    obtain ⟨hpn, hln, y0, y1⟩ := HOLD.out wr m3
    have HPN := Lib.hid hpn
    have hl5 := HL5.out
    by_cases hlt : j < L.length
    · obtain ⟨⟨e1, e2⟩, hx⟩ : ∃ x, L[j]? = some x := ⟨_, List.getElem?_eq_getElem hlt⟩
      obtain ⟨bx, ox, rfl, _, q0, q1⟩ := lies2 hln hx
      have hin := HE.out _ (List.mem_of_getElem? hx)
      dsimp only at hin
      obtain ⟨u, rfl⟩ : ∃ u : Nat, e1 = (u : Int) := ⟨e1.toNat, by omega⟩
      obtain ⟨v, rfl⟩ : ∃ v : Nat, e2 = (v : Int) := ⟨e2.toNat, by omega⟩
      have hun : u < n := by omega
      have hvn : v < n := by omega
      have i1 : (j : Int) < (L.length : Int) := by omega
      have i2 : (j : Int) < 100000 := by omega
      have i3 : (u : Int) < (n : Int) := by omega
      have i4 : (v : Int) < (n : Int) := by omega
      have HJ := Lib.hid hlt
      have HUV := Lib.hid (And.intro hun hvn)
      have HTK := Lib.hid (step_take (stepB now) (now) hx)
      obtain ⟨X, hX⟩ : ∃ X, (L.take j).foldl (stepB now) now = X := ⟨_, rfl⟩
      have HXX := Lib.hid hX
      rw [hX] at HTK M1
      have HXL := Lib.hid (show X.length = n by rw [← hX]; exact (foldB_len now _).trans HLN.out)
      obtain ⟨x, hxx⟩ : ∃ x, at_ now u = x := ⟨_, rfl⟩
      obtain ⟨y, hyy⟩ : ∃ y, at_ X v = y := ⟨_, rfl⟩
      have hsx : x < M64 := by rw [← hxx]; exact HSM.out u (by rw [HLN.out]; exact hun)
      have hst : stepB now X ((u : Int), (v : Int)) = if x ≠ farN ∧ x + 1 < y then X.set v (x + 1) else X := by
        unfold stepB
        simp only [Int.toNat_natCast]
        rw [hxx, hyy]
      rw [hst] at HTK
      have HXY := Lib.hid (And.intro hxx hyy)
      clear hxx hyy hst
      clear hx hin hlt hj m1 m2 m3 hpn hln hl5 hX hun hvn
      go_wp2
      go_quiet (fail)
      obtain ⟨wq, hwq⟩ : ∃ V, wr.drewN nq = V := ⟨_, rfl⟩
      have N1 := Lib.hid (show PB wq g2 (X) by rw [← hwq]; exact M1.out)
      have N2 := Lib.hid (show UB wq gs (List.replicate n 0) by rw [← hwq]; exact M2.out)
      have N3 := Lib.hid (show Below W.heap.size W wq by rw [← hwq]; exact M3.out.trans ((below_drewNg wr _).mono M3.out.size))
      rw [hwq]
      clear hwq q0 q1 y0 y1
      obtain ⟨npb, nlies, y0, y1⟩ := HOLD.out wq N3.out
      have NPB := Lib.hid npb
      have NLI := Lib.hid nlies
      clear npb nlies
      have d0 := NPB.out.cell (v := u) (by rw [HLN.out]; exact HUV.out.1)
      have d1 := N1.out.cell (v := v) (by rw [HXL.out]; exact HUV.out.2)
      have f1 := N1.out.free (v := v) (by rw [HXL.out]; exact HUV.out.2)
      rw [HXY.out.1] at d0
      rw [HXY.out.2] at d1
      by_cases hf : x = farN
      · have HK := Lib.hid (show (L.take (j + 1)).foldl (stepB now) now = X by rw [HTK.out, if_neg (fun q => q.1 hf)])
        have t1 : ((x : Int) != 18446744073709551615) = false := by rw [hf]; decide
        clear hf hsx
        go_wp2
        go_quiet (fail)
        go_wp2
        go_roundw
        case rel => exact ⟨j + 1, by go_num, HJ.out, by rw [HK.out]; exact N1.out, N2.out, N3.out.trans ((below_drewNg wq _).mono N3.out.size)⟩
        case measure => have := HJ.out; simp [intOf]; omega
      · have t1 : ((x : Int) != 18446744073709551615) = true := by
          have : (x : Int) ≠ 18446744073709551615 := fun q => hf (by unfold farN; omega)
          simpa using this
        have t2 := succ_wrap hsx hf
        by_cases hlt : x + 1 < y
        · have HK := Lib.hid (show (L.take (j + 1)).foldl (stepB now) now = X.set v (x + 1) by rw [HTK.out, if_pos ⟨hf, hlt⟩])
          have t3 : ((x + 1 : Nat) : Int) < (y : Int) := by omega
          have t4 : decide (((x + 1 : Nat) : Int) < (y : Int)) = true := decide_eq_true t3
          have t5 : (x : Int) + 1 < (y : Int) := by omega
          have t6 : decide ((x : Int) + 1 < (y : Int)) = true := decide_eq_true t5
          have t7 : decide (x + 1 < y) = true := decide_eq_true hlt
          clear hf hsx
          go_wp2
          go_quiet (fail)
          go_wp2
          go_roundw
          case rel =>
            have hs := Fr.setCell (wq.drewN nq) ⟨g2, v, none⟩ (.int .u64 ((x + 1 : Nat) : Int))
            have hP : PB (wq.drewN nq) g2 X := N1.out
            have hU : UB (wq.drewN nq) gs (List.replicate n 0) := N2.out
            have hres : PB ((wq.drewN nq).setCell ⟨g2, v, none⟩ (.int .u64 ((x + 1 : Nat) : Int))) g2 ((L.take (j + 1)).foldl (stepB now) now) ∧ UB ((wq.drewN nq).setCell ⟨g2, v, none⟩ (.int .u64 ((x + 1 : Nat) : Int))) gs (List.replicate n 0) ∧ Below W.heap.size W ((wq.drewN nq).setCell ⟨g2, v, none⟩ (.int .u64 ((x + 1 : Nat) : Int))) :=
              ⟨by rw [HK.out]; exact hP.set (by rw [HXL.out]; exact HUV.out.2) (x + 1), hU.fr hs (fun e => HNE.out e.symm), (N3.out.trans ((below_drewNg wq _).mono N3.out.size)).trans (hs.below (Nat.le_trans N3.out.size (below_drewNg wq nq).size) (fun i e => by have e' : i = g2 := e; rw [e']; exact HG2.out))⟩
            exact ⟨j + 1, by go_num, HJ.out, hres⟩
          case measure => have := HJ.out; simp [intOf]; omega
        · have HK := Lib.hid (show (L.take (j + 1)).foldl (stepB now) now = X by rw [HTK.out, if_neg (fun q => hlt q.2)])
          have t3 : ¬ (((x + 1 : Nat) : Int) < (y : Int)) := by omega
          have t4 : decide (((x + 1 : Nat) : Int) < (y : Int)) = false := decide_eq_false t3
          have t5 : ¬ ((x : Int) + 1 < (y : Int)) := by omega
          have t6 : decide ((x : Int) + 1 < (y : Int)) = false := decide_eq_false t5
          have t7 : decide (x + 1 < y) = false := decide_eq_false hlt
          clear hf hsx
          go_wp2
          go_quiet (fail)
          go_wp2
          go_roundw
          case rel => exact ⟨j + 1, by go_num, HJ.out, by rw [HK.out]; exact N1.out, N2.out, N3.out.trans ((below_drewNg wq _).mono N3.out.size)⟩
          case measure => have := HJ.out; simp [intOf]; omega
    · obtain rfl : j = L.length := by omega
      rw [List.take_length] at M1
      clear hj hlt m1 m2 m3 hpn hln hl5
      go_wp2
      obtain ⟨y0, y1⟩ := (HOLD.out wr M3.out).2.2
      go_loopw [12] (fun i wi => ∃ (t m : Nat), i = .int .i64 (t : Int) ∧ t ≤ n ∧ wi = wr.drewN m) (fun i _ => n - (intOf i).toNat)
      case atStart => exact ⟨0, 0, rfl, by omega, rfl⟩
      case round =>
        obtain ⟨t, m, rfl, ht, rfl⟩ := hrel
        by_cases htn : t < n
        · have k1 : (t : Int) < (n : Int) := by omega
          have k2 : (t : Int) < 1000 := by have := HN.out.2; omega
          have HT := Lib.hid htn
          clear ht htn
          go_wp2
          go_quiet (fail)
          go_wp2
          go_roundw
          case rel => exact ⟨t + 1, _, by go_num, HT.out, rfl⟩
          case measure => have := HT.out; simp [intOf]; omega
        · obtain rfl : t = n := by omega
          clear ht htn
          go_wp2
          go_ret
          exact ⟨g2, cc2, rfl, M1.out, Nat.le_trans HB.out.size HG2.out, HB.out.trans ((M3.out.trans ((below_drewNg wr m).mono M3.out.size)).mono HB.out.size)⟩
end Go.Proofs.Ytpmgkmodpneiiaa.E
