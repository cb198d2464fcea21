/- The document's Next, kind 4. Conditions: those that each theorem names. -/
import Derived.Test.YtpmgkmodpneiiaaNxc
namespace Go.Proofs.Ytpmgkmodpneiiaa.E
open Go.RowKit Go.Sort Go.Shelf
open Go.Proofs.Ytpmgkmodpneiiaa.Ma
set_option linter.unusedVariables false
set_option linter.unusedSimpArgs false
attribute [local irreducible] wpQuiet wpStill
set_option maxRecDepth 100000 in
set_option maxHeartbeats 4000000 in
theorem next4_at (g n c : Nat) (now : List Nat) (A : Option Addr) (cL : Nat) (L : List Ed) (a p d : Int) (w : World) (hPB : PB w g now) (hlen : now.length = n) (h1 : 1 ≤ n) (hn2 : n ≤ 256) (hL : Lies enc2 2 w A L) (hE : Edges n L) (hl : L.length ≤ 5000) (hsm : Small now) (k0 : Nat) (ha : a = (k0 : Int)) (hk0 : k0 ≤ 100000) :
    Calls Try.prog 26 #[.slice (some ⟨g, 0, none⟩) n c, .slice A L.length cL, rq 4 a p d] w fun e w' => ∃ g2 c2, e = .returned (.slice (some ⟨g2, 0, none⟩) n c2) ∧ PB w' g2 (nextC k0 now L) ∧ w.heap.size ≤ g2 ∧ Below w.heap.size w w' := by
  subst ha
  have HK0 := Lib.hid hk0
  clear hk0
  obtain ⟨W, hW, hbl, c0, c1, c2', c3⟩ := box4 w 4 (k0 : Int) p d
  have HB := Lib.hid hbl
  have HPB := Lib.hid (hPB.fr (Fr.of_below hbl) (fun h => h))
  have HLW := Lib.hid (hL.below hbl (Nat.le_refl _))
  have HLN := Lib.hid hlen
  have HN := Lib.hid (And.intro h1 hn2)
  have HE := Lib.hid hE
  have HL5 := Lib.hid hl
  have HSM := Lib.hid hsm
  have HKC := Lib.hid (fun (W2 : World) (hb : Below W.heap.size W W2) => And.intro (keep_cell c0 hb) (keep_cell c1 hb))
  have HPA := Lib.hid (show PB (W.alloc (.cells #[] 37 (0, 0))) g now from HPB.out.fr (Fr.alloc W _) (fun h => h))
  have HRE := Lib.hid (row_empty (k := 1) W 37 W.heap.size (Nat.le_refl _))
  have HSA := Lib.hid (show W.heap.size ≤ (W.alloc (.cells #[] 37 (0, 0))).heap.size by simp)
  have hmk := fun V => make_u n (by omega) V
  clear hPB hL hlen h1 hn2 hE hl hsm hbl c2' c3
  go_enter Try.func26, Try.ntmps26
  go_upto_region 3 with (at_builtin; refine wp_appU rfl _ _ rfl W.heap.size _ rfl HRE.out g n c now rfl HLN.out HPA.out HN.out.1 (Nat.le_trans HN.out.2 (by decide)) HSA.out ?_; intro g2 cc2 w2 hp2 hf2 hg2; have HP2 := Lib.hid hp2; have HG2 := Lib.hid hg2; have HB2 := Lib.hid (((Below.refl W.heap.size W).alloc (Nat.le_refl _) (.cells #[] 37 (0, 0))).trans (hf2.below HSA.out (fun i e => (HRE.out.lt i e).1))); clear hp2 hf2 hg2)
  obtain ⟨w3, hw3, gw3, b3, s3⟩ := box_new w2 (.cells (rowU 0 n 0).toArray 37 (0, 0))
  rw [hw3]
  obtain ⟨gs, hgs⟩ : ∃ gs, w2.heap.size = gs := ⟨_, rfl⟩
  have HB23 := Lib.hid b3
  have HNE := Lib.hid (show g2 ≠ gs by have := HP2.out.lt; omega)
  have HGS := Lib.hid (show W.heap.size ≤ gs from hgs ▸ HB2.out.size)
  rw [hgs] at gw3 ⊢
  have HS3 := Lib.hid (show UB w3 gs (List.replicate n 0) by rw [zero_u] at gw3; exact gw3)
  have HP3 := Lib.hid (show PB w3 g2 now from HP2.out.fr (Fr.of_below HB23.out) (fun h => h))
  have HB3 := Lib.hid (show Below W.heap.size W w3 from HB2.out.trans (HB23.out.mono HB2.out.size))
  have HOLD := Lib.hid (show ∀ V, Below W.heap.size W V → PB V g now ∧ Lies enc2 2 V A L ∧ V.cell? ⟨w.heap.size, 0, none⟩ = some (.int .i64 4) ∧ V.cell? ⟨w.heap.size, 1, none⟩ = some (.int .i64 (k0 : Int)) from fun V hV => ⟨HPB.out.fr (Fr.of_below hV) (fun h => h), HLW.out.below hV (Nat.le_refl _), (HKC.out V hV).1, (HKC.out V hV).2⟩)
  clear hw3 gw3 b3 s3 hgs hmk c0 c1
  go_wp2
  go_loopw [9] (fun i wi => ∃ j : Nat, i = .int .i64 (j : Int) ∧ j ≤ L.length ∧ PB wi g2 (now) ∧ UB wi gs ((L.take j).foldl (stepS now) (List.replicate n 0)) ∧ Below W.heap.size W wi) (fun i _ => L.length - (intOf i).toNat)
  case atStart => exact ⟨0, rfl, by omega, HP3.out, HS3.out, HB3.out⟩
  case round =>
    obtain ⟨j, rfl, hj, m1, m2, m3⟩ := hrel
    have M1 := Lib.hid m1
    have M2 := Lib.hid m2
    have M3 := Lib.hid m3
    obtain ⟨hpn, hln, y0, y1⟩ := HOLD.out wr m3
    have HPN := Lib.hid hpn
    have hl5 := HL5.out
    by_cases hlt : j < L.length
    · obtain ⟨⟨e1, e2⟩, hx⟩ : ∃ x, L[j]? = some x := ⟨_, List.getElem?_eq_getElem hlt⟩
      obtain ⟨bx, ox, rfl, _, q0, q1⟩ := lies2 hln hx
      have hin := HE.out _ (List.mem_of_getElem? hx)
      dsimp only at hin
      obtain ⟨u, rfl⟩ : ∃ u : Nat, e1 = (u : Int) := ⟨e1.toNat, by omega⟩
      obtain ⟨v, rfl⟩ : ∃ v : Nat, e2 = (v : Int) := ⟨e2.toNat, by omega⟩
      have hun : u < n := by omega
      have hvn : v < n := by omega
      have i1 : (j : Int) < (L.length : Int) := by omega
      have i2 : (j : Int) < 100000 := by omega
      have i3 : (u : Int) < (n : Int) := by omega
      have i4 : (v : Int) < (n : Int) := by omega
      have HJ := Lib.hid hlt
      have HUV := Lib.hid (And.intro hun hvn)
      have HTK := Lib.hid (step_take (stepS now) (List.replicate n 0) hx)
      obtain ⟨X, hX⟩ : ∃ X, (L.take j).foldl (stepS now) (List.replicate n 0) = X := ⟨_, rfl⟩
      have HXX := Lib.hid hX
      rw [hX] at HTK M2
      have HXL := Lib.hid (show X.length = n by rw [← hX]; exact foldS_len now n _)
      obtain ⟨xu, hxu⟩ : ∃ x, at_ now u = x := ⟨_, rfl⟩
      obtain ⟨xv, hxv⟩ : ∃ x, at_ now v = x := ⟨_, rfl⟩
      obtain ⟨yu, hyu⟩ : ∃ x, at_ X u = x := ⟨_, rfl⟩
      obtain ⟨z1, hz1⟩ : ∃ x, (yu + xv) % M64 = x := ⟨_, rfl⟩
      obtain ⟨yv, hyv⟩ : ∃ x, at_ (X.set u z1) v = x := ⟨_, rfl⟩
      obtain ⟨z2, hz2⟩ : ∃ x, (yv + xu) % M64 = x := ⟨_, rfl⟩
      have hst : stepS now X ((u : Int), (v : Int)) = (X.set u z1).set v z2 := by
        unfold stepS
        simp only [Int.toNat_natCast]
        rw [hxu, hxv, hyu, hz1, hyv, hz2]
      rw [hst] at HTK
      have HXY := Lib.hid (And.intro hxu (And.intro hxv (And.intro hyu hyv)))
      have HW1 := Lib.hid (show IntKind.u64.wrap ((yu : Int) + (xv : Int)) = (z1 : Int) by rw [give_wrap, hz1])
      have HW2 := Lib.hid (show IntKind.u64.wrap ((yv : Int) + (xu : Int)) = (z2 : Int) by rw [give_wrap, hz2])
      clear hxu hxv hyu hyv hst hz1 hz2
      clear hx hin hlt hj m1 m2 m3 hpn hln hl5 hX hun hvn
      go_wp2
      go_quiet (fail)
      obtain ⟨wq, hwq⟩ : ∃ V, wr.drewN nq = V := ⟨_, rfl⟩
      have N1 := Lib.hid (show PB wq g2 (now) by rw [← hwq]; exact M1.out)
      have N2 := Lib.hid (show UB wq gs (X) by rw [← hwq]; exact M2.out)
      have N3 := Lib.hid (show Below W.heap.size W wq by rw [← hwq]; exact M3.out.trans ((below_drewNg wr _).mono M3.out.size))
      rw [hwq]
      clear hwq q0 q1 y0 y1
      obtain ⟨npb, nlies, y0, y1⟩ := HOLD.out wq N3.out
      have NPB := Lib.hid npb
      have NLI := Lib.hid nlies
      clear npb nlies
      have d0 := NPB.out.cell (v := v) (by rw [HLN.out]; exact HUV.out.2)
      have d1 := N2.out.cell (v := u) (by rw [HXL.out]; exact HUV.out.1)
      have f1 := N2.out.free (v := u) (by rw [HXL.out]; exact HUV.out.1)
      rw [HXY.out.2.1] at d0
      rw [HXY.out.2.2.1] at d1
      have t1 := HW1.out
      go_wp2
      refine region_tail2 11 (by kernel_rfl) (by kernel_rfl) fun wd hwd => ?_
      simp only [List.take_succ_cons, List.take_zero, List.drop_succ_cons, List.drop_zero]
      have D1 := Lib.hid (show PB wd g2 now by rw [hwd]; exact N1.out)
      have D2 := Lib.hid (show UB wd gs X by rw [hwd]; exact N2.out)
      have D3 := Lib.hid (show Below W.heap.size W wd by rw [hwd]; exact N3.out.drew)
      have r0 : wd.cell? ⟨g, v, none⟩ = some (.int .u64 (xv : Int)) := by rw [hwd]; exact d0
      have r1 : wd.cell? ⟨gs, u, none⟩ = some (.int .u64 (yu : Int)) := by rw [hwd]; exact d1
      have r2 : wd.frozen? ⟨gs, u, none⟩ = false := by rw [hwd]; exact f1
      clear hwd d0 d1 f1
      repeat still_step
      refine wpStill_nil ?_
      go_upto_region 18 with (fail)
      obtain ⟨w6, hw6, P6, U6, B6⟩ : ∃ V, wd.setCell ⟨gs, u, none⟩ (.int .u64 (z1 : Int)) = V ∧ PB V g2 now ∧ UB V gs (X.set u z1) ∧ Below W.heap.size W V := by
        have hs := Fr.setCell wd ⟨gs, u, none⟩ (.int .u64 (z1 : Int))
        exact ⟨_, rfl, D1.out.fr hs (fun e => HNE.out e), D2.out.set u _, D3.out.trans (hs.below D3.out.size (fun i e => by have e' : i = gs := e; rw [e']; exact HGS.out))⟩
      rw [hw6]
      have HP6 := Lib.hid P6
      have HU6 := Lib.hid U6
      have HB6 := Lib.hid B6
      clear hw6 P6 U6 B6 r0 r1 r2 t1
      obtain ⟨npb, _, y0, y1⟩ := HOLD.out w6 HB6.out
      have d0 := npb.cell (v := u) (by rw [HLN.out]; exact HUV.out.1)
      have d1 := HU6.out.cell (v := v) (by rw [List.length_set, HXL.out]; exact HUV.out.2)
      have f1 := HU6.out.free (v := v) (by rw [List.length_set, HXL.out]; exact HUV.out.2)
      rw [HXY.out.1] at d0
      rw [HXY.out.2.2.2] at d1
      have t1 := HW2.out
      clear npb
      refine region_tail2 11 (by kernel_rfl) (by kernel_rfl) fun wd hwd => ?_
      simp only [List.take_succ_cons, List.take_zero, List.drop_succ_cons, List.drop_zero]
      have D1 := Lib.hid (show PB wd g2 now by rw [hwd]; exact HP6.out)
      have D2 := Lib.hid (show UB wd gs (X.set u z1) by rw [hwd]; exact HU6.out)
      have D3 := Lib.hid (show Below W.heap.size W wd by rw [hwd]; exact HB6.out.drew)
      have r0 : wd.cell? ⟨g, u, none⟩ = some (.int .u64 (xu : Int)) := by rw [hwd]; exact d0
      have r1 : wd.cell? ⟨gs, v, none⟩ = some (.int .u64 (yv : Int)) := by rw [hwd]; exact d1
      have r2 : wd.frozen? ⟨gs, v, none⟩ = false := by rw [hwd]; exact f1
      clear hwd d0 d1 f1
      repeat still_step
      refine wpStill_nil ?_
      go_wp2
      go_roundw
      case rel =>
        have hs := Fr.setCell wd ⟨gs, v, none⟩ (.int .u64 (z2 : Int))
        have hres : PB (wd.setCell ⟨gs, v, none⟩ (.int .u64 (z2 : Int))) g2 now ∧ UB (wd.setCell ⟨gs, v, none⟩ (.int .u64 (z2 : Int))) gs ((L.take (j + 1)).foldl (stepS now) (List.replicate n 0)) ∧ Below W.heap.size W (wd.setCell ⟨gs, v, none⟩ (.int .u64 (z2 : Int))) :=
          ⟨D1.out.fr hs (fun e => HNE.out e), by rw [HTK.out]; exact D2.out.set v _, D3.out.trans (hs.below D3.out.size (fun i e => by have e' : i = gs := e; rw [e']; exact HGS.out))⟩
        exact ⟨j + 1, by go_num, HJ.out, hres⟩
      case measure => have := HJ.out; simp [intOf]; omega
    · obtain rfl : j = L.length := by omega
      rw [List.take_length] at M2
      clear hj hlt m1 m2 m3 hpn hln hl5
      go_wp2
      obtain ⟨S, hS⟩ : ∃ S, L.foldl (stepS now) (List.replicate n 0) = S := ⟨_, rfl⟩
      have HSS := Lib.hid hS
      have HSL := Lib.hid (show S.length = n by rw [← hS]; exact foldS_len now n L)
      rw [hS] at M2
      clear hS
      go_loopw [12] (fun i wi => ∃ t : Nat, i = .int .i64 (t : Int) ∧ t ≤ n ∧ PB wi g2 (capTo k0 S now t) ∧ UB wi gs S ∧ Below W.heap.size W wi) (fun i _ => n - (intOf i).toNat)
      case atStart => exact ⟨0, rfl, by omega, M1.out, M2.out, M3.out⟩
      case round =>
        obtain ⟨t, rfl, ht, m1, m2, m3⟩ := hrel
        have P1 := Lib.hid m1
        have P2 := Lib.hid m2
        have P3 := Lib.hid m3
        by_cases htn : t < n
        · obtain ⟨_, _, y0, y1⟩ := HOLD.out wr m3
          have d0 := m2.cell (v := t) (by rw [HSL.out]; exact htn)
          obtain ⟨s, hs⟩ : ∃ s, at_ S t = s := ⟨_, rfl⟩
          rw [hs] at d0
          have hcs := capTo_succ k0 S now t
          rw [hs] at hcs
          have HCL := Lib.hid (show t < (capTo k0 S now t).length by rw [capTo_len, HLN.out]; exact htn)
          have k1 : (t : Int) < (n : Int) := by omega
          have k2 : (t : Int) < 1000 := by have := HN.out.2; omega
          have t1 : IntKind.u64.wrap (k0 : Int) = (k0 : Int) := IntWalk.u64_in _ ⟨by omega, by have := HK0.out; omega⟩
          have HT := Lib.hid htn
          by_cases hlt : s < k0
          · rw [if_pos hlt] at hcs
            have HCS := Lib.hid hcs
            have t2 : (s : Int) < (k0 : Int) := by omega
            have t3 : decide ((s : Int) < (k0 : Int)) = true := decide_eq_true t2
            have t4 : decide (s < k0) = true := decide_eq_true hlt
            have d1 := m1.cell (v := t) HCL.out
            have f1 := m1.free (v := t) HCL.out
            clear ht htn m1 m2 m3 hs hcs
            go_wp2
            go_quiet (fail)
            go_wp2
            go_roundw
            case rel =>
              have hP : PB (wr.drewN nq) g2 (capTo k0 S now t) := P1.out
              have hU : UB (wr.drewN nq) gs S := P2.out
              have hs := Fr.setCell (wr.drewN nq) ⟨g2, t, none⟩ (.int .u64 ((0 : Nat) : Int))
              have hres : PB ((wr.drewN nq).setCell ⟨g2, t, none⟩ (.int .u64 ((0 : Nat) : Int))) g2 (capTo k0 S now (t + 1)) ∧ UB ((wr.drewN nq).setCell ⟨g2, t, none⟩ (.int .u64 ((0 : Nat) : Int))) gs S ∧ Below W.heap.size W ((wr.drewN nq).setCell ⟨g2, t, none⟩ (.int .u64 ((0 : Nat) : Int))) :=
                ⟨by rw [HCS.out]; exact hP.set HCL.out 0, hU.fr hs (fun e => HNE.out e.symm), (P3.out.trans ((below_drewNg wr _).mono P3.out.size)).trans (hs.below (Nat.le_trans P3.out.size (below_drewNg wr nq).size) (fun i e => by have e' : i = g2 := e; rw [e']; exact HG2.out))⟩
              exact ⟨t + 1, by go_num, HT.out, hres⟩
            case measure => have := HT.out; simp [intOf]; omega
          · rw [if_neg hlt] at hcs
            have HCS := Lib.hid hcs
            have t2 : ¬ ((s : Int) < (k0 : Int)) := by omega
            have t3 : decide ((s : Int) < (k0 : Int)) = false := decide_eq_false t2
            have t4 : decide (s < k0) = false := decide_eq_false hlt
            clear ht htn m1 m2 m3 hs hcs
            go_wp2
            go_quiet (fail)
            go_wp2
            go_roundw
            case rel => exact ⟨t + 1, by go_num, HT.out, by rw [HCS.out]; exact P1.out, P2.out, P3.out.trans ((below_drewNg wr _).mono P3.out.size)⟩
            case measure => have := HT.out; simp [intOf]; omega
        · obtain rfl : t = n := by omega
          have HRES := Lib.hid (show capTo k0 S now t = nextC k0 now L by unfold nextC sumS; rw [HLN.out, HSS.out])
          clear ht htn m1 m2 m3
          go_wp2
          go_ret
          exact ⟨g2, cc2, rfl, HRES.out ▸ P1.out, Nat.le_trans HB.out.size HG2.out, HB.out.trans (P3.out.mono HB.out.size)⟩
end Go.Proofs.Ytpmgkmodpneiiaa.E
