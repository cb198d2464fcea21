/- TruthRanks: the law walked. -/
import Derived.Test.YtpmgkmodpneiiaaRkp
import Derived.Test.YtpmgkmodpneiiaaOpg
namespace Go.Proofs.Ytpmgkmodpneiiaa.E
open Go.RowKit Go.Sort Go.Shelf
open Go.Proofs.Ytpmgkmodpneiiaa.Ma
set_option linter.unusedVariables false
set_option linter.unusedSimpArgs false
theorem box4r (w : World) (x0 x1 x2 x3 : Value) (T : TypeId) : ∃ W, w.alloc (.cells #[x0, x1, x2, x3] T) = W ∧ W.heap[w.heap.size]? = some (.cells #[x0, x1, x2, x3] T (0, 0)) ∧ Below w.heap.size w W ∧ W.heap.size = w.heap.size + 1 ∧ W.cell? ⟨w.heap.size, 0, none⟩ = some x0 ∧ W.cell? ⟨w.heap.size, 1, none⟩ = some x1 ∧ W.cell? ⟨w.heap.size, 2, none⟩ = some x2 ∧ W.cell? ⟨w.heap.size, 3, none⟩ = some x3 := by
  obtain ⟨W, hW, gW, hb, hs⟩ := box_new w (.cells #[x0, x1, x2, x3] T (0, 0))
  exact ⟨W, hW, gW, hb, hs, cell_of_heap (i := 0) gW rfl, cell_of_heap (i := 1) gW rfl, cell_of_heap (i := 2) gW rfl, cell_of_heap (i := 3) gW rfl⟩
theorem sumN_succ (out : List Nat) (k : Nat) : sumN out (k + 1) = sumN out k + at_ out k := by
  unfold sumN
  rw [List.range_succ, List.map_append, List.sum_append]
  simp
theorem sumN_mono (out : List Nat) : ∀ {k n : Nat}, k ≤ n → sumN out k ≤ sumN out n := fun {k n} h => by
  induction n with
  | zero => have : k = 0 := by omega
            subst this; exact Nat.le_refl _
  | succ n ih =>
    by_cases e : k = n + 1
    · subst e; exact Nat.le_refl _
    · have := ih (by omega)
      rw [sumN_succ]
      omega
theorem u64_add {a b : Nat} (h : a + b ≤ 1000000000000) : IntKind.u64.wrap ((a : Int) + (b : Int)) = ((a + b : Nat) : Int) := by rw [IntWalk.u64_in _ ⟨by omega, by omega⟩]; omega
theorem u64_mul {n : Nat} (h : n ≤ 60) : IntKind.u64.wrap ((n : Int) * 4294967296) = ((n * 4294967296 : Nat) : Int) := by rw [IntWalk.u64_in _ ⟨by omega, by omega⟩]; omega
theorem wrap_r {d r : Nat} (hd : d ≤ 63) (hr : 1 + d = r) : RowKit.wrap64 (1 + (d : Int)) = (r : Int) ∧ IntKind.i64.wrap (1 + (d : Int)) = (r : Int) :=
  ⟨by rw [IntWalk.wrap64_in _ ⟨by omega, by omega⟩]; omega, by rw [IntWalk.i64_in _ ⟨by omega, by omega⟩]; omega⟩
theorem wrap_j {j : Nat} (hj : j ≤ 1000) : RowKit.wrap64 ((j : Int) + 1) = (j : Int) + 1 ∧ IntKind.i64.wrap ((j : Int) + 1) = (j : Int) + 1 :=
  ⟨IntWalk.wrap64_in _ ⟨by omega, by omega⟩, IntWalk.i64_in _ ⟨by omega, by omega⟩⟩
attribute [local irreducible] wpQuiet
set_option maxRecDepth 100000 in
set_option maxHeartbeats 4000000 in
theorem ranlaw_at (A : Option Addr) (c : Nat) (N s0 : Int) (P : List Ed) (w : World) (hN : 0 ≤ N ∧ N ≤ 255) (hs0 : 0 ≤ s0 ∧ s0 ≤ 255) (hL : Lies enc8 2 w A P) (hb8 : ∀ p ∈ P, (0 ≤ p.1 ∧ p.1 ≤ 255) ∧ 0 ≤ p.2 ∧ p.2 ≤ 255) (hlen : P.length ≤ 300) :
    Calls Try.prog 8 #[.agg #[.int .u8 N, .slice A P.length c], .int .u8 s0] w fun e w' => e = .returned (.bool true) ∧ Below w.heap.size w w' := by
  obtain ⟨W, hW, gW, hbl, hsz⟩ := box_new w (.cells #[.int .u8 N, .slice A P.length c] 41 (0, 0))
  have b0 : W.cell? ⟨w.heap.size, 0, none⟩ = some (.int .u8 N) := cell_of_heap (i := 0) gW rfl
  have b1 : W.cell? ⟨w.heap.size, 1, none⟩ = some (.slice A P.length c) := cell_of_heap (i := 1) gW rfl
  have HB := Lib.hid hbl
  have HMA := made_at A c N P W hN (hL.below hbl (Nat.le_refl _)) hb8 hlen
  have hg := made_good (N := N) hlen
  have hm := madeN_in (N := N)
  obtain ⟨n, hn⟩ : ∃ n : Nat, madeN N = (n : Int) := ⟨(madeN N).toNat, by omega⟩
  obtain ⟨L, hLL⟩ : ∃ L, madeL N P = L := ⟨_, rfl⟩
  rw [hn, hLL] at HMA
  rw [hn, hLL, Int.toNat_natCast] at hg
  have HM := Lib.hid HMA
  have HG := Lib.hid hg
  have hn1 := hg.n1
  have hn2 := hg.n2
  obtain ⟨d, hd⟩ : ∃ d : Nat, s0 % 64 = (d : Int) := ⟨(s0 % 64).toNat, by omega⟩
  have hd63 : d ≤ 63 := by omega
  have x0 : IntKind.i64.wrap s0 = s0 := wrap8 hs0
  have x1 : s0.tmod 64 = (d : Int) := by rw [← hd]; exact Int.tmod_eq_emod_of_nonneg hs0.1
  obtain ⟨r, hr⟩ : ∃ r, 1 + d = r := ⟨_, rfl⟩
  have X2 := Lib.hid (wrap_r hd63 hr)
  have hal : (ofOut n L).length = n := (ofOut_row hg.edges).1
  have hrs := ranks_sum hal hn2 (rows_out hg.edges) r
  have hrl := ranks_n hg r
  obtain ⟨now, hnow⟩ : ∃ x, ranks (ofOut n L) r = x := ⟨_, rfl⟩
  rw [hnow] at hrs hrl
  have HRS := Lib.hid hrs
  have HRL := Lib.hid hrl
  have HOF := Lib.hid (fun (A' : Option Addr) (c' : Nat) (V : World) (h : Lies enc2 2 V A' L) => by
    have := ofr_ok A' c' n L 2 (r : Int) 0 0 V h (by rw [hg.ref]; exact chk_two hn1 hn2 (by omega) (by omega))
    rw [job_two, hnow] at this
    exact this)
  have HRI := Lib.hid (fun (h2n : 2 ≤ n) (A' : Option Addr) (c' : Nat) (V : World) (h : Lies enc2 2 V A' (ringN n n)) => by
    have := ofr_ok A' c' n (ringN n n) 2 (r : Int) 0 0 V h (by rw [(ring_good h2n hn2).ref]; exact chk_two hn1 hn2 (by omega) (by omega))
    rw [job_two] at this
    exact this)
  have HR := Lib.hid (fun V => round_at V)
  have x4 : ¬ ((300 : Int) < (P.length : Int)) := by omega
  have x5 : ¬ ((P.length : Int) > 300) := by omega
  have x6 : decide ((P.length : Int) > 300) = false := decide_eq_false x5
  have HN12 := Lib.hid (And.intro hn1 hn2)
  clear hb8 hlen hL hbl hsz gW hn hLL hg hm HMA hN hs0 hn1 hn2 hd hd63 hr hal hrs hrl hnow
  obtain ⟨x2, x3⟩ := X2.out
  go_enter Try.func8, Try.ntmps8
  go_upto_region 5 with (go_at_call 16; refine HM.out.mono ?_; rintro e w2 ⟨A', c', rfl, hl2, hb2⟩; have HL2 := Lib.hid hl2; have HB2 := Lib.hid hb2; clear hl2 hb2)
  clear x0 x1 x2 x3
  obtain ⟨w4, hw4, gw4, hb4, hs4, z0, z1, z2, z3⟩ := box4r w2 (.int .i64 2) (.int .i64 (r : Int)) (.int .i64 0) (.int .i64 0) 24
  rw [hw4]
  obtain ⟨rb, hrb⟩ : ∃ b, w2.heap.size = b := ⟨_, rfl⟩
  have HB24 := Lib.hid hb4
  rw [hrb] at z0 z1 z2 z3 ⊢
  have HZ := Lib.hid (fun V (hV : Below w4.heap.size w4 V) => And.intro (keep_cell z0 hV) (And.intro (keep_cell z1 hV) (And.intro (keep_cell z2 hV) (keep_cell z3 hV))))
  have HL4 := Lib.hid (HL2.out.below HB24.out (Nat.le_refl _))
  have HBW4 := Lib.hid (show Below W.heap.size W w4 from HB2.out.trans (HB24.out.mono HB2.out.size))
  clear hw4 gw4 hb4 hs4 hrb
  go_upto_region 8 with (go_at_call 12; refine (HOF.out _ _ _ HL4.out).mono ?_; rintro e w5 ⟨g, rfl, hu, hg0, hb5⟩; have HU := Lib.hid hu; have HG0 := Lib.hid hg0; have HB5 := Lib.hid hb5; clear hu hg0 hb5)
  have HBW5 := Lib.hid (show Below W.heap.size W w5 from HBW4.out.trans (HB5.out.mono HBW4.out.size))
  clear z0 z1 z2 z3
  go_wp2
  go_loopw [10, 11] (fun s i wi => ∃ k : Nat, i = .int .i64 (k : Int) ∧ k ≤ n ∧ s = .int .u64 (sumN now k : Nat) ∧ wi = w5) (fun _ i _ => n - (intOf i).toNat)
  case atStart => exact ⟨0, rfl, by omega, rfl, rfl⟩
  case round =>
    obtain ⟨k, rfl, hk, rfl, rfl⟩ := hrel
    have hsk := Nat.le_trans (sumN_mono now hk) HRS.out.1
    have hnn := HN12.out
    by_cases hlt : k < n
    · have d0 := HU.out.cell (v := k) (by rw [HRL.out]; exact hlt)
      have hlow := HRS.out.2 k hlt
      have hnext : sumN now (k + 1) ≤ n * 4294967296 := Nat.le_trans (sumN_mono now hlt) HRS.out.1
      have hss := sumN_succ now k
      obtain ⟨y, hy⟩ : ∃ y, at_ now k = y := ⟨_, rfl⟩
      obtain ⟨S, hS⟩ : ∃ y, sumN now k = y := ⟨_, rfl⟩
      rw [hy] at d0 hlow hss
      rw [hS] at hss hsk ⊢
      rw [hss] at hnext
      have HSS := Lib.hid hss
      have t1 : ¬ ((y : Int) < 644245094) := by omega
      have t2 : decide ((y : Int) < 644245094) = false := decide_eq_false t1
      have t3 : ¬ (y < 644245094) := by omega
      have t4 : decide (y < 644245094) = false := decide_eq_false t3
      have t5 := u64_add (a := S) (b := y) (by omega)
      have i1 : (k : Int) < (n : Int) := by omega
      have i2 : (k : Int) < 1000 := by omega
      have HK := Lib.hid hlt
      clear hlow hnext hss hy hS hsk hlt hk hnn
      go_wp2
      go_roundw
      case rel => exact ⟨k + 1, by go_num, HK.out, by rw [HSS.out]; exact congrArg _ (Int.natCast_add S y).symm, trivial⟩
      case measure => have := HK.out; simp [intOf]; omega
    · obtain rfl : k = n := by omega
      have hum := u64_mul hnn.2
      obtain ⟨S, hS⟩ : ∃ y, sumN now k = y := ⟨_, rfl⟩
      rw [hS] at hsk ⊢
      obtain ⟨Bn, hBn⟩ : ∃ b, k * 4294967296 = b := ⟨_, rfl⟩
      rw [hBn] at hsk hum
      have t0 : IntKind.u64.wrap (k : Int) = (k : Int) := IntWalk.u64_in _ ⟨by omega, by omega⟩
      have t1 : ¬ ((Bn : Int) < (S : Int)) := by omega
      have t2 : decide ((Bn : Int) < (S : Int)) = false := decide_eq_false t1
      have t3 : ¬ (Bn < S) := by omega
      have t4 : decide (Bn < S) = false := decide_eq_false t3
      by_cases h1n : k = 1
      · have t5 : ((k : Int) == 1) = true := by rw [h1n]; rfl
        have HR2 := Lib.hid (HR.out wr)
        clear hS hBn hsk hk hlt hnn h1n
        go_wp2_with (go_at_call 11; refine HR2.out.mono ?_; rintro e w9 ⟨rfl, hb9⟩; have HB9 := Lib.hid hb9; clear hb9)
        go_ret
        exact ⟨rfl, HB.out.trans ((HBW5.out.trans (HB9.out.mono HBW5.out.size)).mono HB.out.size)⟩
      · have t6 : (k : Int) ≠ 1 := by omega
        have t5 : ((k : Int) == 1) = false := by simpa using t6
        have H2N := Lib.hid (show 2 ≤ k by omega)
        have k0 : ¬ ((k : Int) = 0) := by omega
        have k0' : ¬ (k = 0) := by omega
        clear hS hBn hsk hk hlt h1n t6
        obtain ⟨w9, hw9⟩ : ∃ V, V = wr := ⟨_, rfl⟩
        subst hw9
        go_upto_region 20 with (fail)
        clear t0 t1 t2 t3 t4 hum
        go_wp2
        go_loopw [12, 13] (fun s i wi => ∃ (j : Nat) (A1 : Option Addr) (c1 : Nat) (K : List Ed), j ≤ k ∧ i = .int .i64 j ∧ s = .slice A1 K.length c1 ∧ K = ringN k j ∧ wi.ownsRow w9.heap.size 27 2 (.slice A1 K.length c1) K.length (cellsK enc2 K) ∧ Below w9.heap.size w9 wi) (fun _ i _ => k - (intOf i).toNat)
        case atStart => exact ⟨0, none, 0, [], by omega, rfl, rfl, rfl, World.ownsRow_nil _ _ _ _, Below.refl _ _⟩
        case round =>
          obtain ⟨j, A1, c1, K, hj, rfl, rfl, hK, hr, hb⟩ := hrel
          have HK := Lib.hid hK
          have HRW := Lib.hid hr
          have HBk := Lib.hid hb
          by_cases hlt : j < k
          · have i1 : (j : Int) < (k : Int) := by omega
            have i2 : (j : Int) < 1000 := by omega
            have hpos : (0 : Int) ≤ (j : Int) + 1 := by omega
            have e3 : ((j : Int) + 1).tmod (k : Int) = ((j : Int) + 1) % (k : Int) := Int.tmod_eq_emod_of_nonneg hpos
            obtain ⟨t, ht⟩ : ∃ t, ((j : Int) + 1) % (k : Int) = t := ⟨_, rfl⟩
            rw [ht] at e3
            obtain ⟨R, hR⟩ : ∃ R, K ++ [((j : Int), t)] = R := ⟨_, rfl⟩
            have H1 := Lib.hid hR
            have HRe := Lib.hid (show R = ringN k (j + 1) by rw [← hR, hK, ring_succ, ht])
            have HRm := Lib.hid (show R.length ≤ 2000000 by rw [HRe.out]; simp [ringN]; omega)
            have HJ := Lib.hid hlt
            have e1 := (wrap_j (j := j) (by omega))
            obtain ⟨e1, e2⟩ := e1
            clear hR hK hr hb hj hlt ht hpos
            go_wp2_with (at_builtin; refine wp_app rfl _ _ rfl w9.heap.size K [((j : Int), t)] R H1.out (.slice A1 K.length c1) rfl (HRW.out.alloc _) ⟨wr.heap.size, 0, none⟩ 1 1 rfl rfl (news_one (heap_alloc_new wr _)) HRm.out (Nat.le_trans HBk.out.size (by simp)) ?_; intro A2 c2 w6 hr2 hf2; have HO2 := Lib.hid hr2; have HB6 := Lib.hid ((HBk.out.alloc HBk.out.size (.cells #[.int .i64 (j : Int), .int .i64 t] 27)).trans (hf2.below (Nat.le_trans HBk.out.size (by simp)) (fun i e => (HRW.out.lt i e).1))); clear hr2 hf2)
            clear e1 e2 e3
            go_roundw
            case rel => exact ⟨j + 1, _, _, R, HJ.out, by go_num, rfl, HRe.out, HO2.out, HB6.out⟩
            case measure => have := HJ.out; simp [intOf]; omega
          · obtain rfl : j = k := by omega
            have HLK := Lib.hid (row_lies enc2_len hr)
            have HBWr := Lib.hid (show Below W.heap.size W wr from HBW5.out.trans (hb.mono HBW5.out.size))
            obtain ⟨z0, z1, z2, z3⟩ := HZ.out wr (HB5.out.trans (hb.mono HB5.out.size))
            have HQ := Lib.hid (hK ▸ HRI.out H2N.out A1 c1 wr (hK ▸ HLK.out))
            obtain ⟨x, hx⟩ := ring_same H2N.out hnn.2 r
            have HX := Lib.hid (show ∀ v, v < j → at_ (ranks (ofOut j K) r) v = x by rw [hK]; exact hx)
            have HRN := Lib.hid (show (ranks (ofOut j K) r).length = j by rw [hK]; exact ranks_n (ring_good H2N.out hnn.2) r)
            have i1 : (0 : Int) < (j : Int) := by omega
            clear hK hr hb hj hlt hx hnn
            go_upto_region 25 with (go_at_call 12; refine HQ.out.mono ?_; rintro e w10 ⟨g2, rfl, hu, hg0, hb5⟩; have HU2 := Lib.hid hu; have HB10 := Lib.hid (HBWr.out.trans (hb5.mono HBWr.out.size)); clear hu hg0 hb5)
            clear z0 z1 z2 z3
            go_wp2
            go_loopw [16] (fun i wi => ∃ (v m : Nat), i = .int .i64 (v : Int) ∧ v ≤ j ∧ wi = w10.drewN m) (fun i _ => j - (intOf i).toNat)
            case atStart => exact ⟨0, 0, rfl, by omega, rfl⟩
            case round =>
              obtain ⟨v, m, rfl, hv, rfl⟩ := hrel
              by_cases hvn : v < j
              · have d0 := HU2.out.cell (v := v) (by rw [HRN.out]; exact hvn)
                have d1 := HU2.out.cell (v := 0) (by rw [HRN.out]; omega)
                rw [HX.out v hvn] at d0
                rw [HX.out 0 (by omega)] at d1
                have t1 : ((x : Int) != (x : Int)) = false := by simp
                have i3 : (v : Int) < (j : Int) := by omega
                have i4 : (v : Int) < 1000 := by have := HN12.out.2; omega
                have HV := Lib.hid hvn
                clear hv hvn
                go_wp2
                go_quiet (fail)
                go_wp2
                go_roundw
                case rel => exact ⟨v + 1, _, by go_num, HV.out, rfl⟩
                case measure => have := HV.out; simp [intOf]; omega
              · obtain rfl : v = j := by omega
                have HR2 := Lib.hid (HR.out (w10.drewN m))
                have t1 : ((v : Int) == (v : Int)) = true := by simp
                clear hv hvn
                go_wp2_with (go_at_call 11; refine HR2.out.mono ?_; rintro e w11 ⟨rfl, hb9⟩; have HB9 := Lib.hid hb9; clear hb9)
                go_ret
                exact ⟨rfl, HB.out.trans ((HB10.out.trans (((below_drewNg w10 m).trans HB9.out).mono HB10.out.size)).mono HB.out.size)⟩
set_option maxRecDepth 100000 in
set_option maxHeartbeats 4000000 in
theorem ran_big (A : Option Addr) (c : Nat) (N s0 : Int) (P : List Ed) (w : World) (hlen : 300 < P.length) :
    Calls Try.prog 8 #[.agg #[.int .u8 N, .slice A P.length c], .int .u8 s0] w fun e w' => e = .returned (.bool true) ∧ Below w.heap.size w w' := by
  obtain ⟨W, hW, gW, hbl, hsz⟩ := box_new w (.cells #[.int .u8 N, .slice A P.length c] 41 (0, 0))
  have b1 : W.cell? ⟨w.heap.size, 1, none⟩ = some (.slice A P.length c) := cell_of_heap (i := 1) gW rfl
  have HB := Lib.hid hbl
  have HR := Lib.hid (round_at W)
  have x4 : (300 : Int) < (P.length : Int) := by omega
  have x5 : (P.length : Int) > 300 := x4
  have x6 : decide ((P.length : Int) > 300) = true := decide_eq_true x5
  clear gW hbl hsz hlen
  go_enter Try.func8, Try.ntmps8
  go_wp2_with (go_at_call 11; refine HR.out.mono ?_; rintro e w9 ⟨rfl, hb9⟩; have HB9 := Lib.hid hb9; clear hb9)
  go_ret
  exact ⟨rfl, HB.out.trans (HB9.out.mono HB.out.size)⟩
theorem ran_all (A : Option Addr) (len c : Nat) (N s0 : Int) (P : List Ed) (w : World) (hP : P.length = len) (hN : 0 ≤ N ∧ N ≤ 255) (hs0 : 0 ≤ s0 ∧ s0 ≤ 255) (hL : Lies enc8 2 w A P) (hb8 : ∀ p ∈ P, (0 ≤ p.1 ∧ p.1 ≤ 255) ∧ 0 ≤ p.2 ∧ p.2 ≤ 255) :
    Calls Try.prog 8 #[.agg #[.int .u8 N, .slice A len c], .int .u8 s0] w fun e w' => e = .returned (.bool true) ∧ Below w.heap.size w w' := by
  subst hP
  by_cases h : P.length ≤ 300
  · exact ranlaw_at A c N s0 P w hN hs0 hL hb8 h
  · exact ran_big A c N s0 P w (by omega)
end Go.Proofs.Ytpmgkmodpneiiaa.E
