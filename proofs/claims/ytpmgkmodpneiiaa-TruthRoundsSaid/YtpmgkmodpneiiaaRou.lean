/- TruthRounds: the law walked. -/
import Derived.Test.YtpmgkmodpneiiaaRop
import Derived.Test.YtpmgkmodpneiiaaAsk
namespace Go.Proofs.Ytpmgkmodpneiiaa.E
open Go.RowKit Go.Sort Go.Shelf
open Go.Proofs.Ytpmgkmodpneiiaa.Ma
set_option linter.unusedVariables false
set_option linter.unusedSimpArgs false
set_option maxRecDepth 100000 in
set_option maxHeartbeats 4000000 in
theorem roulaw_at (A : Option Addr) (c : Nat) (N K0 A0 P0 D0 : Int) (P : List Ed) (w : World) (hN : 0 ≤ N ∧ N ≤ 255) (hK : 0 ≤ K0 ∧ K0 ≤ 255) (hA : 0 ≤ A0 ∧ A0 ≤ 255) (hP : 0 ≤ P0 ∧ P0 ≤ 255) (hD : 0 ≤ D0 ∧ D0 ≤ 65535) (hL : Lies enc8 2 w A P) (hb8 : ∀ p ∈ P, (0 ≤ p.1 ∧ p.1 ≤ 255) ∧ 0 ≤ p.2 ∧ p.2 ≤ 255) (hlen : P.length ≤ 300) :
    Calls Try.prog 10 #[.agg #[.int .u8 N, .slice A P.length c], .agg #[.int .u8 K0, .int .u8 A0, .int .u8 P0, .int .u16 D0]] w fun e w' => e = .returned (.bool true) ∧ Below w.heap.size w w' := by
  obtain ⟨W1, hW1, gW1, hb1, hs1⟩ := box_new w (.cells #[.int .u8 N, .slice A P.length c] 41 (0, 0))
  obtain ⟨W, hW, gW, hb2, hs2, v0, v1, v2, v3⟩ := box4n W1 (.int .u8 K0) (.int .u8 A0) (.int .u8 P0) (.int .u16 D0) 44
  have hbl : Below w.heap.size w W := hb1.trans (hb2.mono hb1.size)
  have b0 : W.cell? ⟨w.heap.size, 0, none⟩ = some (.int .u8 N) := keep_cell (cell_of_heap (i := 0) gW1 rfl) hb2
  have b1 : W.cell? ⟨w.heap.size, 1, none⟩ = some (.slice A P.length c) := keep_cell (cell_of_heap (i := 1) gW1 rfl) hb2
  have HB := Lib.hid hbl
  have HMA := made_at A c N P W hN (hL.below hbl (Nat.le_refl _)) hb8 hlen
  have hg := made_good (N := N) hlen
  have hm := madeN_in (N := N)
  obtain ⟨n, hn⟩ : ∃ n : Nat, madeN N = (n : Int) := ⟨(madeN N).toNat, by omega⟩
  obtain ⟨L, hLL⟩ : ∃ L, madeL N P = L := ⟨_, rfl⟩
  rw [hn, hLL] at HMA
  rw [hn, hLL, Int.toNat_natCast] at hg
  have HM := Lib.hid HMA
  have HG := Lib.hid hg
  have hn1 := hg.n1
  have hn2 := hg.n2
  have HAK := Lib.hid (fun V => ask_at K0 A0 P0 D0 n V hK hA hP hD ⟨hn1, hn2⟩)
  have HKV := Lib.hid (fun V (hV : Below W.heap.size W V) => And.intro (keep_cell v0 hV) (And.intro (keep_cell v1 hV) (And.intro (keep_cell v2 hV) (keep_cell v3 hV))))
  have HOF := Lib.hid (fun (A' : Option Addr) (c' : Nat) (k a p d : Int) (hc : chk k a p n = 0) (V : World) (h : Lies enc2 2 V A' L) => rnd_ok A' c' n L k a p d V h (by rw [hg.ref]; exact hc))
  have HMB := Lib.hid (fun (k a p : Int) (hc : chk k a p n = 0) => many_bound hg hc)
  have HP1 := Lib.hid (fun (A' : Option Addr) (c' : Nat) (V : World) (h : Lies enc2 2 V A' (pathTo (n - 1))) => by
    have := rnd_ok A' c' n (pathTo (n - 1)) 1 0 0 0 V h (by rw [(path_good hn1 hn2).ref]; exact chk_one hn1 hn2 (s := 0) (by omega))
    rw [long_path hn1 hn2] at this
    exact this)
  have HP3 := Lib.hid (fun (A' : Option Addr) (c' : Nat) (V : World) (h : Lies enc2 2 V A' (pathTo (n - 1))) => by
    have := rnd_ok A' c' n (pathTo (n - 1)) 3 0 0 0 V h (by rw [(path_good hn1 hn2).ref]; exact chk_three hn1 hn2)
    rw [low_path hn1 hn2] at this
    exact this)
  have HP0 := Lib.hid (fun (V : World) => by
    have := rnd_ok none 0 n [] 3 0 0 0 V (fun j x hx => by simp at hx) (by rw [(empty_good hn1 hn2).ref]; exact chk_three hn1 hn2)
    rw [none_rounds hn1 hn2] at this
    exact (this : Calls Try.prog 13 #[.int .i64 (n : Int), .slice none 0 0, .agg #[.int .i64 3, .int .i64 0, .int .i64 0, .int .i64 0]] V fun e w' => e = .returned (.tuple #[.int .i64 1, .int .i64 0]) ∧ Below V.heap.size V w'))
  have HR := Lib.hid (fun V => round_at V)
  have x4 : ¬ ((300 : Int) < (P.length : Int)) := by omega
  have x5 : ¬ ((P.length : Int) > 300) := by omega
  have x6 : decide ((P.length : Int) > 300) = false := decide_eq_false x5
  have HN12 := Lib.hid (And.intro hn1 hn2)
  clear hb8 hlen hL hbl gW hn hLL hg hm HMA hN hn1 hn2 hb1 hs1 hb2 hs2 gW1 hK hA hP hD
  go_enter Try.func10, Try.ntmps10
  go_upto_region 5 with (first
    | (have _ := HL2; go_at_call 17; refine (HAK.out _).mono ?_; rintro e w3 ⟨k, a, p, d, rfl, hc, hb3⟩; have HCH := Lib.hid hc; have HB3 := Lib.hid hb3; clear hc hb3)
    | (go_at_call 16; refine HM.out.mono ?_; rintro e w2 ⟨A', c', rfl, hl2, hb2⟩; have HL2 := Lib.hid hl2; have HB2 := Lib.hid hb2; obtain ⟨u0, u1, u2, u3⟩ := HKV.out w2 hb2; clear hl2 hb2))
  obtain ⟨w4, hw4, gw4, hb4, hs4, z0, z1, z2, z3⟩ := box4n w3 (.int .i64 k) (.int .i64 a) (.int .i64 p) (.int .i64 d) 24
  rw [hw4]
  obtain ⟨rb, hrb⟩ : ∃ b, w3.heap.size = b := ⟨_, rfl⟩
  have HB34 := Lib.hid hb4
  rw [hrb] at z0 z1 z2 z3 ⊢
  have HB24 := Lib.hid (show Below w2.heap.size w2 w4 from HB3.out.trans (HB34.out.mono HB3.out.size))
  have HZ := Lib.hid (fun V (hV : Below w4.heap.size w4 V) => And.intro (keep_cell z0 hV) (And.intro (keep_cell z1 hV) (And.intro (keep_cell z2 hV) (keep_cell z3 hV))))
  have HL4 := Lib.hid (HL2.out.below HB24.out (Nat.le_refl _))
  have HBW4 := Lib.hid (show Below W.heap.size W w4 from HB2.out.trans (HB24.out.mono HB2.out.size))
  obtain ⟨m1, m2, m3⟩ := HMB.out k a p HCH.out
  obtain ⟨M, hM⟩ : ∃ x, (job n L k a).2 = x := ⟨_, rfl⟩
  have hof := HOF.out A' c' k a p d HCH.out w4 HL4.out
  rw [hM] at m1 m2 m3 hof
  have HO4 := Lib.hid hof
  have HBD := Lib.hid (fun V => bound_at k a p d (n : Int) V)
  obtain ⟨Bd, hBd⟩ : ∃ x, bnd k a p n = x := ⟨_, rfl⟩
  rw [hBd] at m2 HBD
  have g1 : (1 : Int) ≤ (M : Int) := by omega
  have g2 : decide ((1 : Int) ≤ (M : Int)) = true := decide_eq_true g1
  have g3 : (M : Int) ≥ 1 := g1
  have g4 : (M : Int) ≤ Bd := m2
  have g5 : decide ((M : Int) ≤ Bd) = true := decide_eq_true g4
  have g6 : 1 ≤ M := m1
  have g7 : decide (1 ≤ M) = true := decide_eq_true g6
  have g8 : ¬ ((M : Int) < 1) := by omega
  clear hw4 gw4 hb4 hs4 hrb m1 m2 m3 hof hM hBd u0 u1 u2 u3
  go_upto_region 6 with (go_at_call 13; refine HO4.out.mono ?_; rintro e w5 ⟨rfl, hb5⟩; have HB5 := Lib.hid hb5; clear hb5)
  have HBW5 := Lib.hid (show Below W.heap.size W w5 from HBW4.out.trans (HB5.out.mono HBW4.out.size))
  clear z0 z1 z2 z3
  go_wp2
  go_loopw [10, 11] (fun s i wi => ∃ (k : Nat) (A1 : Option Addr) (c1 : Nat) (K : List Ed), k ≤ n - 1 ∧ i = .int .i64 k ∧ s = .slice A1 K.length c1 ∧ K = pathTo k ∧ wi.ownsRow w5.heap.size 27 2 (.slice A1 K.length c1) K.length (cellsK enc2 K) ∧ Below w5.heap.size w5 wi) (fun _ i _ => n - (intOf i).toNat)
  case atStart => exact ⟨0, none, 0, [], by omega, rfl, rfl, rfl, World.ownsRow_nil _ _ _ _, Below.refl _ _⟩
  case round =>
    obtain ⟨j, A1, c1, K, hj, rfl, rfl, hK, hr, hb⟩ := hrel
    have HK := Lib.hid hK
    have HRW := Lib.hid hr
    have HBk := Lib.hid hb
    have HNN := HN12.out
    have e1 : RowKit.wrap64 ((j : Int) + 1) = (j : Int) + 1 := IntWalk.wrap64_in _ ⟨by omega, by omega⟩
    have e2 : IntKind.i64.wrap ((j : Int) + 1) = (j : Int) + 1 := IntWalk.i64_in _ ⟨by omega, by omega⟩
    by_cases hlt : j + 1 < n
    · have i1 : (j : Int) + 1 < (n : Int) := by omega
      have i2 : (j : Int) < 1000 := by omega
      obtain ⟨R, hR⟩ : ∃ R, K ++ [((j : Int), (j : Int) + 1)] = R := ⟨_, rfl⟩
      have H1 := Lib.hid hR
      have HRe := Lib.hid (show R = pathTo (j + 1) by rw [← hR, hK, path_succ])
      have HRm := Lib.hid (show R.length ≤ 2000000 by rw [HRe.out]; simp [pathTo]; omega)
      have HJ := Lib.hid hlt
      clear hR hK hr hb hj hlt HNN
      go_wp2_with (at_builtin; refine wp_app rfl _ _ rfl w5.heap.size K [((j : Int), (j : Int) + 1)] R H1.out (.slice A1 K.length c1) rfl (HRW.out.alloc _) ⟨wr.heap.size, 0, none⟩ 1 1 rfl rfl (news_one (heap_alloc_new wr _)) HRm.out (Nat.le_trans HBk.out.size (by simp)) ?_; intro A2 c2 w6 hr2 hf2; have HO2 := Lib.hid hr2; have HB6 := Lib.hid ((HBk.out.alloc HBk.out.size (.cells #[.int .i64 (j : Int), .int .i64 ((j : Int) + 1)] 27)).trans (hf2.below (Nat.le_trans HBk.out.size (by simp)) (fun i e => (HRW.out.lt i e).1))); clear hr2 hf2)
      go_roundw
      case rel => exact ⟨j + 1, _, _, R, by have := HJ.out; omega, by go_num, rfl, HRe.out, HO2.out, HB6.out⟩
      case measure => have := HJ.out; simp [intOf]; omega
    · have hjn : j = n - 1 := by omega
      have i1 : ¬ ((j : Int) + 1 < (n : Int)) := by omega
      have i2 : decide ((j : Int) + 1 < (n : Int)) = false := decide_eq_false i1
      rw [hjn] at hK
      have HLK := Lib.hid (row_lies enc2_len hr)
      have HBWr := Lib.hid (show Below W.heap.size W wr from HBW5.out.trans (hb.mono HBW5.out.size))
      have HB4r := Lib.hid (show Below w4.heap.size w4 wr from HB5.out.trans (hb.mono HB5.out.size))
      have HQ1 := Lib.hid (fun V (hV : Below wr.heap.size wr V) => hK ▸ HP1.out A1 c1 V (hK ▸ HLK.out.below hV (Nat.le_refl _)))
      have HQ3 := Lib.hid (fun V (hV : Below wr.heap.size wr V) => hK ▸ HP3.out A1 c1 V (hK ▸ HLK.out.below hV (Nat.le_refl _)))
      clear hjn hK hr hb hj hlt HNN
      have HP0r := Lib.hid (HP0.out wr)
      go_upto_region 14 with (first
        | (have _ := HB8; go_at_call 13; refine (HQ3.out _ HB8.out).mono ?_; rintro e w9 ⟨rfl, hb9⟩; have HB9 := Lib.hid (HB8.out.trans (hb9.mono HB8.out.size)); clear hb9)
        | (have _ := HB7; go_at_call 13; refine (HQ1.out _ HB7.out).mono ?_; rintro e w8 ⟨rfl, hb8⟩; have HB8 := Lib.hid (HB7.out.trans (hb8.mono HB7.out.size)); clear hb8)
        | (go_at_call 13; refine HP0r.out.mono ?_; rintro e w7 ⟨rfl, hb7⟩; have HB7 := Lib.hid hb7; clear hb7))
      obtain ⟨z0, z1, z2, z3⟩ := HZ.out w9 (HB4r.out.trans (HB9.out.mono HB4r.out.size))
      go_wp2_with (first
        | (have _ := HB10; go_at_call 11; refine (HR.out _).mono ?_; rintro e w11 ⟨rfl, hb11⟩; have HB11 := Lib.hid (HB10.out.trans (hb11.mono HB10.out.size)); clear hb11)
        | (go_at_call 21; refine (HBD.out _).mono ?_; rintro e w10 ⟨rfl, hb10⟩; have HB10 := Lib.hid (HB9.out.trans (hb10.mono HB9.out.size)); clear hb10))
      go_ret
      exact ⟨rfl, HB.out.trans ((HBWr.out.trans (HB11.out.mono HBWr.out.size)).mono HB.out.size)⟩
set_option maxRecDepth 100000 in
set_option maxHeartbeats 4000000 in
theorem rou_big (A : Option Addr) (c : Nat) (N K0 A0 P0 D0 : Int) (P : List Ed) (w : World) (hlen : 300 < P.length) :
    Calls Try.prog 10 #[.agg #[.int .u8 N, .slice A P.length c], .agg #[.int .u8 K0, .int .u8 A0, .int .u8 P0, .int .u16 D0]] w fun e w' => e = .returned (.bool true) ∧ Below w.heap.size w w' := by
  obtain ⟨W1, hW1, gW1, hb1, hs1⟩ := box_new w (.cells #[.int .u8 N, .slice A P.length c] 41 (0, 0))
  obtain ⟨W, hW, gW, hb2, hs2, v0, v1, v2, v3⟩ := box4n W1 (.int .u8 K0) (.int .u8 A0) (.int .u8 P0) (.int .u16 D0) 44
  have b1 : W.cell? ⟨w.heap.size, 1, none⟩ = some (.slice A P.length c) := keep_cell (cell_of_heap (i := 1) gW1 rfl) hb2
  have HB := Lib.hid (show Below w.heap.size w W from hb1.trans (hb2.mono hb1.size))
  have HR := Lib.hid (round_at W)
  have x4 : (300 : Int) < (P.length : Int) := by omega
  have x5 : (P.length : Int) > 300 := x4
  have x6 : decide ((P.length : Int) > 300) = true := decide_eq_true x5
  clear gW gW1 hb1 hs1 hb2 hs2 v0 v1 v2 v3 hlen
  go_enter Try.func10, Try.ntmps10
  go_wp2_with (go_at_call 11; refine HR.out.mono ?_; rintro e w9 ⟨rfl, hb9⟩; have HB9 := Lib.hid hb9; clear hb9)
  go_ret
  exact ⟨rfl, HB.out.trans (HB9.out.mono HB.out.size)⟩
theorem rou_all (A : Option Addr) (len c : Nat) (N K0 A0 P0 D0 : Int) (P : List Ed) (w : World) (hP' : P.length = len) (hN : 0 ≤ N ∧ N ≤ 255) (hK : 0 ≤ K0 ∧ K0 ≤ 255) (hA : 0 ≤ A0 ∧ A0 ≤ 255) (hP : 0 ≤ P0 ∧ P0 ≤ 255) (hD : 0 ≤ D0 ∧ D0 ≤ 65535) (hL : Lies enc8 2 w A P) (hb8 : ∀ p ∈ P, (0 ≤ p.1 ∧ p.1 ≤ 255) ∧ 0 ≤ p.2 ∧ p.2 ≤ 255) :
    Calls Try.prog 10 #[.agg #[.int .u8 N, .slice A len c], .agg #[.int .u8 K0, .int .u8 A0, .int .u8 P0, .int .u16 D0]] w fun e w' => e = .returned (.bool true) ∧ Below w.heap.size w w' := by
  subst hP'
  by_cases h : P.length ≤ 300
  · exact roulaw_at A c N K0 A0 P0 D0 P w hN hK hA hP hD hL hb8 h
  · exact rou_big A c N K0 A0 P0 D0 P w (by omega)
end Go.Proofs.Ytpmgkmodpneiiaa.E
