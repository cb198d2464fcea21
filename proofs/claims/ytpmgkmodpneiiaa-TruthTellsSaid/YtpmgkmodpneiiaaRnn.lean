/- The document's Run, by its rounds. Conditions: those that each theorem names. -/
import Derived.Test.YtpmgkmodpneiiaaFst
namespace Go.Proofs.Ytpmgkmodpneiiaa.E
open Go.RowKit Go.Sort Go.Shelf
open Go.Proofs.Ytpmgkmodpneiiaa.Ma
set_option linter.unusedVariables false
set_option linter.unusedSimpArgs false
def diffTo (a b : List Nat) (t : Nat) : Bool := (List.range t).any fun v => at_ a v != at_ b v
theorem diffTo_succ (a b : List Nat) (t : Nat) : diffTo a b (t + 1) = (diffTo a b t || at_ a t != at_ b t) := by
  unfold diffTo
  rw [List.range_succ, List.any_append]
  simp
theorem diffTo_ne {a b : List Nat} {n : Nat} (ha : a.length = n) (hb : b.length = n) : diffTo a b n = !(decide (a = b)) := by
  by_cases h : a = b
  · subst h
    have : diffTo a a n = false := by
      unfold diffTo
      rw [List.any_eq_false]
      intro v _
      simp
    rw [this]; simp
  · rw [decide_eq_false h]
    have : diffTo a b n = true := by
      apply Classical.byContradiction
      intro hf
      apply h
      refine at_ext (by rw [ha, hb]) (fun v hv => ?_)
      apply Classical.byContradiction
      intro hne
      apply hf
      unfold diffTo
      rw [List.any_eq_true]
      exact ⟨v, List.mem_range.2 (by omega), by simpa using hne⟩
    rw [this]; rfl
attribute [local irreducible] wpQuiet
set_option maxRecDepth 100000 in
set_option maxHeartbeats 4000000 in
theorem run_gen (A : Option Addr) (c n : Nat) (L : List Ed) (k a p d : Int) (w : World) (hL : Lies enc2 2 w A L) (hn : 1 ≤ n ∧ n ≤ 256) (href : refC n L k a p = 0) (it : Nat → List Nat) (K : Nat) (hK : 1 ≤ K ∧ K ≤ 1000)
    (hit : ∀ m, m ≤ K → (it m).length = n)
    (hF : ∀ V : World, Calls Try.prog 25 #[.int .i64 (n : Int), rq k a p d] V fun e w' => ∃ g, e = .returned (.slice (some ⟨g, 0, none⟩) n n) ∧ UB w' g (it 0) ∧ V.heap.size ≤ g ∧ Below V.heap.size V w')
    (hN : ∀ (m g c2 : Nat) (V : World), m < K → PB V g (it m) → Lies enc2 2 V A L → Calls Try.prog 26 #[.slice (some ⟨g, 0, none⟩) n c2, .slice A L.length c, rq k a p d] V fun e w' => ∃ g2 c3, e = .returned (.slice (some ⟨g2, 0, none⟩) n c3) ∧ PB w' g2 (it (m + 1)) ∧ V.heap.size ≤ g2 ∧ Below V.heap.size V w')
    (hstop : (k = 2 ∧ a = (K : Int)) ∨ (k ≠ 2 ∧ it K = it (K - 1) ∧ ∀ m, m + 1 < K → it (m + 1) ≠ it m)) :
    Calls Try.prog 14 #[.int .i64 (n : Int), .slice A L.length c, rq k a p d] w fun e w' => ∃ g c2, e = .returned (.tuple #[.slice (some ⟨g, 0, none⟩) n c2, .int .i64 (K : Int), .int .i64 0]) ∧ PB w' g (it K) ∧ w.heap.size ≤ g ∧ Below w.heap.size w w' := by
  obtain ⟨W, hW, hbl, c0, c1, c2, c3⟩ := box4 w k a p d
  have HB := Lib.hid hbl
  have HLW := Lib.hid (hL.below hbl (Nat.le_refl _))
  have HRF := Lib.hid (refuses_ok A c n L k a p d W (hL.below hbl (Nat.le_refl _)) href)
  have HKC := Lib.hid (fun (W2 : World) (hb : Below W.heap.size W W2) => And.intro (keep_cell c0 hb) (And.intro (keep_cell c1 hb) (And.intro (keep_cell c2 hb) (keep_cell c3 hb))))
  have HF := Lib.hid hF
  have HNX := Lib.hid hN
  have HIT := Lib.hid hit
  have HST := Lib.hid hstop
  have HN := Lib.hid hn
  have HK := Lib.hid hK
  clear hL hn href hK hit hF hN hstop hbl
  go_enter Try.func14, Try.ntmps14
  go_upto_region 5 with (first
    | (have _ := HB2; go_at_call 25; refine (HF.out _).mono ?_; rintro e w3 ⟨g, rfl, hu, hg, hb3⟩; have HU := Lib.hid hu; have HG := Lib.hid hg; have HB3 := Lib.hid (HB2.out.trans (hb3.mono HB2.out.size)); clear hu hg hb3)
    | (go_at_call 24; refine HRF.out.mono ?_; rintro e w2 ⟨rfl, hb2⟩; have HB2 := Lib.hid hb2; obtain ⟨z0, z1, z2, z3⟩ := HKC.out w2 hb2; clear hb2))
  clear z0 z1 z2 z3 c0 c1 c2 c3
  have HST0 := Lib.hid (show ∃ (m g' c' : Nat), (.slice (some ⟨g, 0, none⟩) n n : Value) = .slice (some ⟨g', 0, none⟩) n c' ∧ (.int .i64 1 : Value) = .int .i64 ((m + 1 : Nat) : Int) ∧ m < K ∧ PB w3 g' (it m) ∧ W.heap.size ≤ g' ∧ Below W.heap.size W w3 from
    ⟨0, g, n, rfl, rfl, HK.out.1, HU.out.pb, Nat.le_trans HB2.out.size HG.out, HB3.out⟩)
  go_wp2
  go_loopw [10, 11] (fun s i wi => ∃ (m g' c' : Nat), s = .slice (some ⟨g', 0, none⟩) n c' ∧ i = .int .i64 ((m + 1 : Nat) : Int) ∧ m < K ∧ PB wi g' (it m) ∧ W.heap.size ≤ g' ∧ Below W.heap.size W wi) (fun _ i _ => K + 1 - (intOf i).toNat)
  case atStart => exact HST0.out
  case round =>
    obtain ⟨m, g', c', rfl, rfl, hm, h1, h2, h3⟩ := hrel
    have H1 := Lib.hid h1
    have H2 := Lib.hid h2
    have H3 := Lib.hid h3
    obtain ⟨z0, z1, z2, z3⟩ := HKC.out wr h3
    have HCN := Lib.hid (HNX.out m g' c' wr hm h1 (HLW.out.below h3 (Nat.le_refl _)))
    have HM := Lib.hid hm
    clear hm h1 h2 h3
    go_upto_region 8 with (go_at_call 26; refine HCN.out.mono ?_; rintro e w4 ⟨g4, c4, rfl, hp4, hg4, hb4⟩; have HP4 := Lib.hid hp4; have HG4 := Lib.hid hg4; have HB4 := Lib.hid hb4; clear hp4 hg4 hb4)
    have HBW4 := Lib.hid (show Below W.heap.size W w4 from H3.out.trans (HB4.out.mono H3.out.size))
    have HP1 := Lib.hid (show PB w4 g' (it m) from H1.out.fr (Fr.of_below HB4.out) (fun h => h))
    have HL1 := Lib.hid (HIT.out m (by have := HM.out; omega))
    have HL2 := Lib.hid (HIT.out (m + 1) HM.out)
    clear z0 z1 z2 z3
    go_wp2
    go_loopw [13, 14] (fun b i wi => ∃ (t q : Nat), i = .int .i64 (t : Int) ∧ t ≤ n ∧ b = .bool (diffTo (it (m + 1)) (it m) t) ∧ wi = w4.drewN q) (fun _ i _ => n - (intOf i).toNat)
    case atStart => exact ⟨0, 0, rfl, by omega, rfl, rfl⟩
    case round =>
      obtain ⟨t, q, rfl, ht, rfl, rfl⟩ := hrel
      by_cases htn : t < n
      · have d0 := HP4.out.cell (v := t) (by rw [HL2.out]; exact htn)
        have d1 := HP1.out.cell (v := t) (by rw [HL1.out]; exact htn)
        have hds := diffTo_succ (it (m + 1)) (it m) t
        obtain ⟨b, hb⟩ : ∃ b, diffTo (it (m + 1)) (it m) t = b := ⟨_, rfl⟩
        obtain ⟨x, hx⟩ : ∃ x, at_ (it (m + 1)) t = x := ⟨_, rfl⟩
        obtain ⟨y, hy⟩ : ∃ x, at_ (it m) t = x := ⟨_, rfl⟩
        rw [hb, hx, hy] at hds
        rw [hx] at d0
        rw [hy] at d1
        rw [hb]
        have HDS := Lib.hid hds
        obtain ⟨r, hr⟩ : ∃ r, (x != y) = r := ⟨_, rfl⟩
        have t1 : ((x : Int) != (y : Int)) = r := by
          rw [← hr]
          by_cases e : x = y
          · subst e; simp
          · have e2 : (x : Int) ≠ (y : Int) := by omega
            rw [bne_iff_ne.2 e, bne_iff_ne.2 e2]
        have HRR := Lib.hid hr
        have k1 : (t : Int) < (n : Int) := by omega
        have k2 : (t : Int) < 1000 := by have := HN.out.2; omega
        have HT := Lib.hid htn
        clear hds hb hx hy hr ht htn
        cases b <;> cases r
        all_goals
          go_wp2
          go_quiet (fail)
          go_wp2
          go_roundw
          case rel => exact ⟨t + 1, _, by go_num, HT.out, by rw [HDS.out, HRR.out]; rfl, rfl⟩
          case measure => have := HT.out; simp [intOf]; omega
      · obtain rfl : t = n := by omega
        have hdn := diffTo_ne HL2.out HL1.out
        have HBQ := Lib.hid (show Below W.heap.size W (w4.drewN q) from HBW4.out.trans ((below_drewNg w4 q).mono HBW4.out.size))
        obtain ⟨z0, z1, z2, z3⟩ := HKC.out w4 HBW4.out
        have hk1000 := HK.out.2
        have hmm := HM.out
        have HGW4 := Lib.hid (show W.heap.size ≤ g4 from Nat.le_trans H3.out.size HG4.out)
        rcases HST.out with ⟨hk2, ha⟩ | ⟨hk2, hs1, hs2⟩
        · subst hk2
          subst ha
          by_cases hmk : m + 1 = K
          · have t1 : (((m + 1 : Nat) : Int) == (K : Int)) = true := by rw [hmk]; simp
            have t2 : ((m : Int) + 1 == (K : Int)) = true := t1
            have HMK := Lib.hid hmk
            clear hdn ht htn hk1000 hmm hmk
            go_wp2
            rw [← HMK.out]
            exact bodyPost_ret (v := .tuple #[.slice (some ⟨g4, 0, none⟩) t c4, .int .i64 ((m + 1 : Nat) : Int), .int .i64 0]) (by simp [results, Try.results14, go_sem]) rfl ⟨g4, ⟨c4, rfl⟩, HP4.out, Nat.le_trans HB.out.size HGW4.out, HB.out.trans (HBQ.out.mono HB.out.size)⟩
          · have t0 : ((m + 1 : Nat) : Int) ≠ (K : Int) := by omega
            have t1 : (((m + 1 : Nat) : Int) == (K : Int)) = false := by simpa using t0
            have t2 : ((m : Int) + 1 == (K : Int)) = false := t1
            have t3 : ((m : Int) + 1) ≤ 1000 := by omega
            have HMK := Lib.hid (show m + 1 < K by omega)
            clear hdn ht htn hk1000 hmm hmk t0
            go_wp2
            go_roundw
            case rel => exact ⟨m + 1, g4, c4, rfl, by go_num, HMK.out, HP4.out, HGW4.out, HBQ.out⟩
            case measure => have := HMK.out; simp [intOf]; omega
        · have u1 : (k == 2) = false := by simpa using hk2
          have u2 : (k != 2) = true := by simpa using hk2
          by_cases hmk : m + 1 = K
          · have heq : it (m + 1) = it m := by
              have := hs1
              rw [← hmk] at this
              simpa using this
            rw [decide_eq_true heq] at hdn
            rw [hdn]
            have HMK := Lib.hid hmk
            clear hdn ht htn hk1000 hmm hmk hs1 hs2 heq hk2
            simp only [Bool.not_true]
            go_wp2
            rw [← HMK.out]
            exact bodyPost_ret (v := .tuple #[.slice (some ⟨g4, 0, none⟩) t c4, .int .i64 ((m + 1 : Nat) : Int), .int .i64 0]) (by simp [results, Try.results14, go_sem]) rfl ⟨g4, c4, rfl, HP4.out, Nat.le_trans HB.out.size HGW4.out, HB.out.trans (HBQ.out.mono HB.out.size)⟩
          · have hne := hs2 m (by omega)
            rw [decide_eq_false hne] at hdn
            rw [hdn]
            have t3 : ((m : Int) + 1) ≤ 1000 := by omega
            have HMK := Lib.hid (show m + 1 < K by omega)
            clear hdn ht htn hk1000 hmm hmk hs1 hs2 hne hk2
            simp only [Bool.not_false]
            go_wp2
            go_roundw
            case rel => exact ⟨m + 1, g4, c4, rfl, by go_num, HMK.out, HP4.out, HGW4.out, HBQ.out⟩
            case measure => have := HMK.out; simp [intOf]; omega
end Go.Proofs.Ytpmgkmodpneiiaa.E
