/- EdgesOrder, walked. Conditions: the pairs lie readable. -/
import Derived.Test.YtfehlnmkeniniaaHad
namespace Go.Proofs.Ytfehlnmkeniniaa.E
open Go.RowKit Go.Sort Go.Shelf
open Go.Proofs.Ytfehlnmkeniniaa.Ma
set_option linter.unusedVariables false
set_option linter.unusedSimpArgs false
theorem c_someR {A : Option Addr} {c : Nat} {n : Int} {P L : List Ed} {w : World} (hLL : P.map (someE n) = L) (hn : 2 ≤ n ∧ n ≤ 256) (hL : Lies enc8 2 w A P) (hb8 : ∀ p ∈ P, (0 ≤ p.1 ∧ p.1 ≤ 255) ∧ 0 ≤ p.2 ∧ p.2 ≤ 255) (hlen : P.length ≤ 400) :
    Calls Try.prog 19 #[.int .i64 n, .slice A P.length c] w fun e w' => ∃ A' c', e = .returned (.slice A' L.length c') ∧ w'.ownsRow w.heap.size 24 2 (.slice A' L.length c') L.length (cellsK enc2 L) ∧ Below w.heap.size w w' := by
  have hl : L.length = P.length := by rw [← hLL, List.length_map]
  refine (some_at A c n P w hn hL hb8 hlen).mono fun e w' ⟨A', c', he, hr, hb⟩ => ⟨A', c', by rw [he, hl], ?_, hb⟩
  rw [hl, ← hLL]
  exact hr
attribute [local irreducible] wpQuiet
set_option maxRecDepth 100000 in
set_option maxHeartbeats 8000000 in
theorem order_at (A : Option Addr) (len cap : Nat) (x z : Int) (P : List Ed) (w : World) (hx8 : 0 ≤ x ∧ x ≤ 255) (hz : 0 ≤ z ∧ z ≤ 65535) (hl : len ≤ 400) (hlen : P.length = len) (hL : Lies enc8 2 w A P) (hb8 : ∀ p ∈ P, (0 ≤ p.1 ∧ p.1 ≤ 255) ∧ 0 ≤ p.2 ∧ p.2 ≤ 255) : Calls Try.prog 4 #[.int .u8 x, .slice A len cap, .int .u16 z] w fun e w' => e = .returned (.bool true) ∧ Below w.heap.size w w' := by
  subst hlen
  have h3 : ¬ (400 : Int) < P.length := by omega
  obtain ⟨r, hr⟩ : ∃ r, x.tmod 255 = r := ⟨_, rfl⟩
  have hr0 : 0 ≤ r ∧ r ≤ 254 := by rw [← hr, Int.tmod_eq_emod_of_nonneg hx8.1]; omega
  have hcx : IntKind.i64.wrap x = x := wrap8 hx8
  obtain ⟨n, hn⟩ : ∃ n : Int, 2 + r = n := ⟨_, rfl⟩
  have hn2 : 2 ≤ n ∧ n ≤ 256 := by omega
  have HN2 := Lib.hid hn2
  have HL := Lib.hid hL
  have HB8 := Lib.hid hb8
  have HLen := Lib.hid hl
  obtain ⟨L, hLL⟩ : ∃ L, P.map (someE n) = L := ⟨_, rfl⟩
  have HLL := Lib.hid hLL
  have hLl : L.length ≤ 400 := by rw [← hLL, List.length_map]; exact hl
  have HL5 := Lib.hid (show L.length ≤ 500000 by omega)
  have hin : ∀ y ∈ L, 0 ≤ y.1 ∧ y.1 < n ∧ 0 ≤ y.2 ∧ y.2 < n ∧ y.1 ≠ y.2 := fun y hy => by
    rw [← hLL] at hy
    obtain ⟨p, _, rfl⟩ := List.mem_map.1 hy
    exact some_in p hn2.1
  have hgood : ∀ y ∈ L, badE n y = false := fun y hy => by
    have := hin y hy
    unfold badE inR
    simp
    omega
  obtain ⟨N, hN⟩ : ∃ N, nrm L = N := ⟨_, rfl⟩
  have hNn : IsNorm L N := hN ▸ nrm_norm L
  have hNl : N.length ≤ L.length := hN ▸ nrm_len L
  have hC : ∀ T : List Ed, (∀ y, y ∈ T ↔ y ∈ L) → normC n T = (0, N) := fun T hT => by
    rw [ok_norm (by omega) (fun y hy => hgood y ((hT y).1 hy))]
    have e : nrm T = N := by rw [← hN]; exact (nrm_eq ((nrm_norm L).congr fun y => (hT y).symm)).symm
    rw [e, if_neg (by omega)]
  have HC0 := Lib.hid (hC L fun y => Iff.rfl)
  have HC3 := Lib.hid (hC N fun y => hNn.mem y)
  have HC := Lib.hid hC
  have HNn := Lib.hid hNn
  have HIn := Lib.hid hin
  have HNl := Lib.hid hNl
  have LN5 := Lib.hid (show N.length ≤ 500000 by omega)
  have LN := Lib.hid (show N.length ≤ 1000000 by omega)
  have g1 : decide (L.length < N.length) = false := by simp; omega
  obtain ⟨Z, hZ1, hZ2⟩ := alloc41
  have HZ2 := Lib.hid hZ2
  clear hL hb8 hLL hin hgood hN hNn hC hZ2 hNl
  go_enter Try.func4, Try.ntmps4
  go_wp2_with (first
    | (go_at_call 8; refine (c_norm HC0.out (row_lies enc2_len HRl.out) HL5.out).mono ?_; rintro e w2 ⟨A2, c2, rfl, h1, hb⟩; have La2 := Lib.hid h1; have HRl2 := Lib.hid (below_row HRl.out hb); have BW2 := Lib.hid (Fresh.below BW1.out hb); clear h1 hb)
    | (go_at_call 19; refine (c_someR HLL.out HN2.out HL.out HB8.out HLen.out).mono ?_; rintro e w1 ⟨A1, c1, rfl, h1, hb⟩; have HRl := Lib.hid h1; have BW1 := Lib.hid hb; clear h1 hb))
  obtain ⟨bd, hbd⟩ : ∃ b, w2.heap.size = b := ⟨_, rfl⟩
  have hH := HZ2.out w2
  have hbW := (Below.refl w2.heap.size w2).alloc (Nat.le_refl _) (.cells Z 41 (0, 0))
  have hsW : w2.heap.size < (w2.alloc (.cells Z 41 (0, 0))).heap.size := by simp
  rw [hbd] at hH hbW hsW ⊢
  have HBD := Lib.hid hbd
  have HbW := Lib.hid hbW
  have HH := Lib.hid hH
  have HsW := Lib.hid hsW
  have BWx := Lib.hid (hbd ▸ BW2.out.size)
  clear hbd hH hbW hsW hZ1
  generalize w2.alloc (.cells Z 41 (0, 0)) = Wd at HbW HH HsW ⊢
  go_loopw [12] (fun i wr => ∃ k : Nat, k ≤ L.length ∧ i = .int .i64 k ∧ HadAt wr bd (L.take k) ∧ bd < wr.heap.size ∧ Below bd w2 wr) (fun i _ => L.length - (intOf i).toNat)
  case atStart => exact ⟨0, by omega, rfl, HH.out, HsW.out, HbW.out⟩
  case round =>
    obtain ⟨k, hk, rfl, hH, hs, hb⟩ := hrel
    have HH1 := Lib.hid hH
    have HS1 := Lib.hid hs
    have HB1 := Lib.hid hb
    clear hH hs hb
    by_cases hlt : k < L.length
    · obtain ⟨⟨x1, x2⟩, hx⟩ : ∃ p, L[k]? = some p := ⟨L[k], List.getElem?_eq_getElem _⟩
      have hi := HIn.out _ (List.mem_of_getElem? hx)
      dsimp only at hi
      obtain ⟨i1, rfl⟩ : ∃ i : Nat, x1 = (i : Int) := ⟨x1.toNat, by omega⟩
      obtain ⟨i2, rfl⟩ : ∃ i : Nat, x2 = (i : Int) := ⟨x2.toNat, by omega⟩
      obtain ⟨g, o, rfl, hg, q0, q1⟩ := lies2 ((row_lies enc2_len HRl2.out).below HB1.out (by rw [HBD.out]; exact Nat.le_refl _)) hx
      have j0 : (k : Int) < (L.length : Int) := by omega
      have j1 : (i1 : Int) < 256 := by omega
      have j2 : (i2 : Int) < 256 := by omega
      have j3 : i1 < 256 := by omega
      have j4 : i2 < 256 := by omega
      obtain ⟨d0, d1⟩ := HH1.out.cell j3 j4
      have HT := Lib.hid (take_snoc hx)
      clear hx hg hi
      go_wp2
      refine region_tail 12 (by kernel_rfl) (by kernel_rfl) fun wd hwd => ?_
      simp only [List.take_succ_cons, List.take_zero, List.drop_succ_cons, List.drop_zero]
      have HBd := Lib.hid (show Below bd w2 wd by rw [hwd]; exact HB1.out.drew)
      have HHd := Lib.hid (show HadAt wd bd (L.take k) by rw [hwd]; exact HH1.out)
      have HSd := Lib.hid (show bd < wd.heap.size by rw [hwd]; exact HS1.out)
      have r0 : wd.cell? ⟨g, o + k * 2, none⟩ = some (.int .i64 i1) := by rw [hwd]; exact q0
      have r1 : wd.cell? ⟨g, o + k * 2 + 1, none⟩ = some (.int .i64 i2) := by rw [hwd]; exact q1
      have e0 : wd.cell? ⟨bd, i1 * 256 + i2, none⟩ = some (.bool (decide (((i1 : Int), (i2 : Int)) ∈ L.take k))) := by rw [hwd]; exact d0
      have e1 : wd.frozen? ⟨bd, i1 * 256 + i2, none⟩ = false := by rw [hwd]; exact d1
      clear hwd q0 q1 d0 d1
      repeat still_step
      refine wpStill_nil ?_
      go_wp2
      go_roundw
      case rel =>
        have hf := Fr.setCell wd ⟨bd, i1 * 256 + i2, none⟩ (.bool true)
        exact ⟨k + 1, by omega, by go_num, by rw [HT.out]; exact HHd.out.set j3 j4, Nat.lt_of_lt_of_le HSd.out hf.size, HBd.out.trans (hf.below (Nat.le_of_lt HSd.out) (fun i e => by have e' : i = bd := e; omega))⟩
      case measure => simp [intOf]; omega
    · obtain rfl : k = L.length := by omega
      rw [List.take_length] at HH1
      have hNm := HNn.out
      have HNb := Lib.hid (show ∀ y ∈ N, 0 ≤ y.1 ∧ y.1 < n ∧ 0 ≤ y.2 ∧ y.2 < n ∧ y.1 ≠ y.2 from fun y hy => HIn.out y ((hNm.mem y).1 hy))
      have hN0 := Lib.hid (pair_nodup hNm.rise)
      have hN400 : N.length ≤ 400 := by have := HNl.out; omega
      clear hNm
      go_wp2
      go_loopw [13, 14] (fun a i wi => ∃ (p s : Nat), p ≤ 256 ∧ i = .int .i64 p ∧ a = .int .i64 s ∧ s = cntA N p 0 ∧ wi = wr) (fun _ i _ => 256 - (intOf i).toNat)
      case atStart => exact ⟨0, 0, by omega, rfl, rfl, (cntA_zero fun y hy => ⟨(HNb.out y hy).1, (HNb.out y hy).2.2.1⟩).symm, rfl⟩
      case round =>
        obtain ⟨p, s, hp, rfl, rfl, hs, rfl⟩ := hrel
        have HS := Lib.hid hs
        have hs4 : s ≤ 400 := by have := cntA_le N p 0; omega
        clear hs
        by_cases hpl : p < 256
        · have p1 : (p : Int) < 256 := by omega
          go_wp2
          go_loopw [13, 15] (fun a j wi => ∃ (q t : Nat), q ≤ 256 ∧ j = .int .i64 q ∧ a = .int .i64 t ∧ t = cntA N p q ∧ wi = wr) (fun _ j _ => 256 - (intOf j).toNat)
          case atStart => exact ⟨0, s, by omega, rfl, rfl, HS.out, rfl⟩
          case round =>
            obtain ⟨q, t, hq, rfl, rfl, ht, rfl⟩ := hrel
            have HT := Lib.hid ht
            have ht4 : t ≤ 400 := by have := cntA_le N p q; omega
            clear ht
            by_cases hql : q < 256
            · have q1 : (q : Int) < 256 := by omega
              obtain ⟨d0, _⟩ := HH1.out.cell hpl hql
              have hst := Lib.hid (cntA_step hN0.out (p : Int) (q : Int))
              have hmq : (((p : Int), (q : Int)) ∈ N) ↔ ((p : Int), (q : Int)) ∈ L := HNn.out.mem _
              by_cases hm : ((p : Int), (q : Int)) ∈ L
              · rw [decide_eq_true hm] at d0
                have HM := Lib.hid (hmq.2 hm)
                clear hm hmq
                go_wp2
                go_roundw
                case rel => exact ⟨q + 1, t + 1, by omega, by go_num, by go_num, by have := hst.out; rw [if_pos HM.out, ← HT.out] at this; exact this.symm, trivial⟩
                case measure => simp [intOf]; omega
              · rw [decide_eq_false hm] at d0
                have HM := Lib.hid (fun h => hm (hmq.1 h))
                clear hm hmq
                go_wp2
                go_roundw
                case rel => exact ⟨q + 1, t, by omega, by go_num, rfl, by have := hst.out; rw [if_neg HM.out, ← HT.out] at this; exact this.symm, trivial⟩
                case measure => simp [intOf]; omega
            · obtain rfl : q = 256 := by omega
              go_wp2
              go_roundw
              case rel => exact ⟨p + 1, t, by omega, by go_num, rfl, HT.out.trans (cntA_row (fun y hy => by have := HNb.out y hy; have := HN2.out; omega) (fun y hy => (HNb.out y hy).2.2.1) _), trivial⟩
              case measure => simp [intOf]; omega
        · obtain rfl : p = 256 := by omega
          rw [show ((256 : Nat) : Int) = (256 : Int) from rfl]
          obtain rfl : s = N.length := HS.out.trans (cntA_all fun y hy => by have := HNb.out y hy; have := HN2.out; omega)
          obtain ⟨w5, hw5⟩ : ∃ V, V = wr := ⟨_, rfl⟩
          subst hw5
          have HR1 := Lib.hid ((Fr.of_below (w := w2) (by rw [HBD.out]; exact HB1.out)).row HRl2.out (fun _ _ e => e))
          have HLa := Lib.hid (La2.out.below HB1.out (by rw [HBD.out]; exact Nat.le_refl _))
          have BWr := Lib.hid (Fresh.below BW2.out (by rw [HBD.out]; exact HB1.out))
          have HRise := Lib.hid HNn.out.rise
          have HMem := Lib.hid (fun y => (HNn.out.mem y).1)
          go_wp2
          go_loopw [16] (fun i wi => ∃ k : Nat, k ≤ N.length ∧ i = .int .i64 k ∧ Below w5.heap.size w5 wi) (fun i _ => N.length - (intOf i).toNat)
          case atStart => exact ⟨0, by omega, rfl, Below.refl _ _⟩
          case round =>
            obtain ⟨k, hk, rfl, hb⟩ := hrel
            have HBi := Lib.hid hb
            clear hb
            by_cases hlk : k < N.length
            · obtain ⟨⟨x1, x2⟩, hx⟩ : ∃ p, N[k]? = some p := ⟨N[k], List.getElem?_eq_getElem _⟩
              have hi := HNb.out _ (List.mem_of_getElem? hx)
              have hmem := HMem.out _ (List.mem_of_getElem? hx)
              dsimp only at hi
              have hn256 := HN2.out
              obtain ⟨i1, rfl⟩ : ∃ i : Nat, x1 = (i : Int) := ⟨x1.toNat, by omega⟩
              obtain ⟨i2, rfl⟩ : ∃ i : Nat, x2 = (i : Int) := ⟨x2.toNat, by omega⟩
              obtain ⟨g, o, rfl, hg, q0, q1⟩ := lies2 (HLa.out.below HBi.out (Nat.le_refl _)) hx
              have j0 : (k : Int) < (N.length : Int) := by omega
              have j1 : (i1 : Int) < 256 := by omega
              have j2 : (i2 : Int) < 256 := by omega
              have j3 : ¬ (255 : Int) < (i1 : Int) := by omega
              have j4 : ¬ (255 : Int) < (i2 : Int) := by omega
              obtain ⟨d0, _⟩ := HH1.out.cell (i := i1) (j := i2) (by omega) (by omega)
              rw [decide_eq_true hmem] at d0
              obtain ⟨W, hW, gW, hbl, hsz, _⟩ := boxed2 wr (i1 : Int) (i2 : Int) 24
              have hBW := Fresh.below HBi.out hbl
              have HBW := Lib.hid hBW
              have s0 := cell_of_heap (i := 0) gW rfl
              have s1 := cell_of_heap (i := 1) gW rfl
              have D0 := (hBW.cell (p := ⟨bd, i1 * 256 + i2, none⟩) HS1.out).trans d0
              have HX := Lib.hid hx
              have t3 : decide ((255 : Int) < (i1 : Int)) = false := by simp; omega
              have t4 : decide ((255 : Int) < (i2 : Int)) = false := by simp; omega
              have t5 : decide (255 < i1) = false := by simp; omega
              have t6 : decide (255 < i2) = false := by simp; omega
              have t7 : decide ((i1 : Int) < 0) = false := by simp
              have t8 : decide ((i2 : Int) < 0) = false := by simp
              clear hx hi hmem hn256 d0 gW hbl hsz hBW
              rcases Nat.eq_zero_or_pos k with rfl | hk0
              · clear hg
                simp only [Nat.zero_mul, Nat.add_zero] at q0 q1
                go_wp2
                go_quiet (fail)
                go_wp2
                go_roundw
                case rel => exact ⟨0 + 1, by omega, by go_num, Fresh.below HBW.out (below_drew W _)⟩
                case measure => simp [intOf]; omega
              · obtain ⟨q, rfl⟩ : ∃ q, k = q + 1 := ⟨k - 1, by omega⟩
                obtain ⟨⟨y1, y2⟩, hy⟩ : ∃ p, N[q]? = some p := ⟨N[q], List.getElem?_eq_getElem _⟩
                obtain ⟨_, _, eb, hg2, r0, r1⟩ := lies2 (HLa.out.below HBW.out (Nat.le_refl _)) hy
                cases eb
                have ha : Ahead (y1, y2) ((i1 : Int), (i2 : Int)) := by
                  have h1 := List.getElem?_eq_some_iff.1 hy
                  have h2 := List.getElem?_eq_some_iff.1 HX.out
                  have := List.pairwise_iff_getElem.1 HRise.out q (q + 1) h1.1 h2.1 (by omega)
                  rw [h1.2, h2.2] at this
                  exact this
                have hcase : y1 < (i1 : Int) ∨ (y1 = (i1 : Int) ∧ y2 < (i2 : Int)) := ha
                have m1 : (0 : Int) < ((q + 1 : Nat) : Int) := by omega
                have m3 : ((q + 1 : Nat) : Int) - 1 = (q : Int) := by omega
                have m4 : (q : Int) < (N.length : Int) := by omega
                have m5 : IntKind.i64.wrap (q : Int) = (q : Int) := wrapq (by omega)
                have m2 : decide (0 < q + 1) = true := by simp
                have HQ := Lib.hid hlk
                clear hy hg hg2 ha hlk hk0 HX
                rcases hcase with h1 | ⟨rfl, h1⟩
                · have e1 : decide ((i1 : Int) < y1) = false := by simp; omega
                  have e2 : (y1 == (i1 : Int)) = false := by simp; omega
                  clear h1
                  go_wp2
                  go_quiet (fail)
                  go_wp2
                  go_roundw
                  case rel => exact ⟨q + 1 + 1, by have := HQ.out; omega, by go_num, Fresh.below HBW.out (below_drew W _)⟩
                  case measure => have := HQ.out; simp [intOf]; omega
                · have e1 : decide ((i1 : Int) < (i1 : Int)) = false := by simp
                  have e2 : decide ((i2 : Int) ≤ y2) = false := by simp; omega
                  clear h1
                  go_wp2
                  go_quiet (fail)
                  go_wp2
                  go_roundw
                  case rel => exact ⟨q + 1 + 1, by have := HQ.out; omega, by go_num, Fresh.below HBW.out (below_drew W _)⟩
                  case measure => have := HQ.out; simp [intOf]; omega
            · obtain rfl : k = N.length := by omega
              have HRi := Lib.hid (below_row HR1.out HBi.out)
              have Lai := Lib.hid (HLa.out.below HBi.out (Nat.le_refl _))
              have BWi := Lib.hid (Fresh.below BWr.out HBi.out)
              obtain ⟨k, hk0⟩ : ∃ k : Nat, z % ((L.length : Int) + 1) = (k : Int) := ⟨(z % ((L.length : Int) + 1)).toNat, by have := Int.emod_nonneg z (show (L.length : Int) + 1 ≠ 0 by omega); omega⟩
              have hkM : k ≤ L.length := by have := Int.emod_lt_of_pos z (show 0 < (L.length : Int) + 1 by omega); omega
              have hkt : z.tmod ((L.length : Int) + 1) = (k : Int) := by rw [← hk0]; exact Int.tmod_eq_emod_of_nonneg hz.1
              have hcz : IntKind.i64.wrap z = z := by
                simp only [IntKind.wrap, IntKind.bits, IntKind.signed]
                simp
                omega
              have hK0 : ¬ (L.length : Int) + 1 = 0 := by omega
              have hcap := row_cap6 HRi.out
              clear hk0
              rcases HRi.out.2 with ⟨hv, hn0⟩ | ⟨g, cap1, cur, hv, _⟩
              · injection hv with e1 _ e2
                subst e1 e2
                obtain rfl : L = [] := List.length_eq_zero_iff.1 hn0
                obtain rfl : k = 0 := by simp at hkM; exact hkM
                have HCn := Lib.hid (HC.out [] fun y => Iff.rfl)
                simp only [List.length_nil, Int.natCast_zero, Int.ofNat_zero, Int.zero_add] at hkt hK0 ⊢
                clear hkM hcap hn0
                go_wp2
                go_region_held3 (fun _ => True)
                  (first | trivial)
                  ((first
                    | (go_at_call 8; refine (c_norm (L := []) (c := 0) HCn.out (fun j x hx => nomatch hx) (Nat.zero_le _)).mono ?_; rintro e w9 ⟨A9, c9, rfl, h9, hb9⟩; have hb9f := Fresh.below (below_drew wr 1) hb9)
                    | (refine step_app0 (by rfl) _ _ (by rfl) wr.heap.size [] (.slice none 0 0) (by rfl) (World.ownsRow_nil _ _ _ _) (by rfl) ?_)))
                all_goals
                  have Hb9 := Lib.hid h9
                  have B9 := Lib.hid hb9f
                  have BW9 := Lib.hid (Fresh.below BWi.out B9.out)
                  have La9 := Lib.hid (lies_to Lai.out B9.out)
                  clear h9 hb9f
                  go_wp2_with (first
                    | (go_at_call 18; refine (does_at w12).mono ?_; rintro e w13 ⟨rfl, hb⟩; have BW13 := Lib.hid (Fresh.below BW12.out hb); clear hb)
                    | (go_at_call 10; refine (c_same (L := N) Hc11.out La11.out LN.out).mono ?_; rintro e w12 ⟨rfl, hb⟩; have BW12 := Lib.hid (Fresh.below BW11.out hb); clear hb)
                    | (go_at_call 10; refine (c_same (L := N) Hb10.out La10.out LN.out).mono ?_; rintro e w11 ⟨rfl, hb⟩; have Hc11 := Lib.hid (lies_to Hc10.out hb); have La11 := Lib.hid (lies_to La10.out hb); have BW11 := Lib.hid (Fresh.below BW10.out hb); clear hb)
                    | (go_at_call 8; refine (c_norm HC3.out La9.out LN5.out).mono ?_; rintro e w10 ⟨A10, c10, rfl, h1, hb⟩; have Hc10 := Lib.hid h1; have Hb10 := Lib.hid (lies_to Hb9.out hb); have La10 := Lib.hid (lies_to La9.out hb); have BW10 := Lib.hid (Fresh.below BW9.out hb); clear h1 hb))
                  go_ret
                  exact ⟨rfl, BW13.out⟩
              · injection hv with e1 _ e2
                subst e1 e2
                obtain ⟨R1, hR1⟩ : ∃ R, L.drop k = R := ⟨_, rfl⟩
                obtain ⟨R2, hR2⟩ : ∃ R, R1 ++ L = R := ⟨_, rfl⟩
                obtain ⟨N3, hN3⟩ : ∃ R, L.take k = R := ⟨_, rfl⟩
                obtain ⟨R3, hR3⟩ : ∃ R, R2 ++ N3 = R := ⟨_, rfl⟩
                have H1 := Lib.hid (show [] ++ R1 = R1 from rfl)
                have H2 := Lib.hid hR2
                have H3 := Lib.hid hR3
                have L1 := Lib.hid (show R1.length = L.length - k by rw [← hR1, List.length_drop])
                have L3 := Lib.hid (show N3.length = k by rw [← hN3, List.length_take]; omega)
                have M1 := Lib.hid (show R1.length ≤ 2000000 by rw [L1.out]; omega)
                have M2 := Lib.hid (show R2.length ≤ 2000000 by rw [← hR2, List.length_append, L1.out]; omega)
                have M3 := Lib.hid (show R3.length ≤ 2000000 by rw [← hR3, ← hR2, List.length_append, List.length_append, L1.out, L3.out]; omega)
                have M5 := Lib.hid (show R3.length ≤ 500000 by rw [← hR3, ← hR2, List.length_append, List.length_append, L1.out, L3.out]; omega)
                have HCn := Lib.hid (HC.out R3 fun y => by
                  rw [← hR3, ← hR2, ← hR1, ← hN3, List.mem_append, List.mem_append]
                  constructor
                  · rintro ((h | h) | h)
                    · exact List.mem_of_mem_drop h
                    · exact h
                    · exact List.mem_of_mem_take h
                  · exact fun h => .inl (.inr h))
                have hLi := row_lies enc2_len HRi.out
                have N1h := Lib.hid (show ∀ W', Below wr.heap.size wr W' → ∀ j u, (cellsK enc2 R1)[j]? = some u → W'.cell? ((⟨g, k * 2, none⟩ : Addr).add j) = some u from fun W' hW' j u hu => by have := lies_drop (lies_to hLi hW') k j u (by rw [hR1]; exact hu); rwa [Nat.zero_add] at this)
                have N2h := Lib.hid (show ∀ W', Below wr.heap.size wr W' → ∀ j u, (cellsK enc2 L)[j]? = some u → W'.cell? ((⟨g, 0, none⟩ : Addr).add j) = some u from fun W' hW' => lies_src hLi hW')
                have N3h := Lib.hid (show ∀ W', Below wr.heap.size wr W' → ∀ j u, (cellsK enc2 N3)[j]? = some u → W'.cell? ((⟨g, 0, none⟩ : Addr).add j) = some u from fun W' hW' j u hu => lies_news (n := k) enc2_len hLi hW' 0 j u (by rw [List.drop_zero, hN3]; exact hu))
                have b0 : (0 : Int) ≤ (k : Int) := by omega
                have b1 : (k : Int) ≤ (L.length : Int) := by omega
                have b2 : (k : Int) ≤ (c1 : Int) := by omega
                have b3 : (L.length : Int) ≤ (c1 : Int) := by omega
                clear hR1 hR2 hN3 hR3 hLi
                by_cases hck : c1 = k
                · have hD0 := Lib.hid (show R1 = [] from List.length_eq_zero_iff.1 (by rw [L1.out]; omega))
                  have L10 := Lib.hid (show R1.length = 0 by rw [hD0.out]; rfl)
                  obtain rfl : c1 = L.length := by omega
                  obtain rfl : k = L.length := hck.symm
                  clear hck hkM hcap
                  go_wp2
                  go_region_held3 (fun _ => True)
                    (first | trivial)
                    ((first
                      | (go_at_call 8; refine (c_norm HCn.out (row_lies enc2_len hr8) M5.out).mono ?_; rintro e w9 ⟨A9, c9, rfl, h9, hb9⟩; have hb9f := hb8.trans (hb9.mono hb8.size))
                      | (refine step_app (by rfl) _ _ (by rfl) wr.heap.size R2 N3 R3 H3.out (.slice A7 R2.length c7) (by rfl) hr7 ⟨g, 0, none⟩ _ _ (by rfl) L3.out (N3h.out _ hb7) M3.out hb7.size ?_; intro A8 c8 w8 hr8 hf8; have hb8 := hb7.trans (hf8.below hb7.size (fun i e => (hr7.lt i e).1)))
                      | (refine step_app (by rfl) _ _ (by rfl) wr.heap.size R1 L R2 H2.out (.slice A6 R1.length c6) (by rfl) hr6 ⟨g, 0, none⟩ _ _ (by rfl) rfl (N2h.out _ hb6) M2.out hb6.size ?_; intro A7 c7 w7 hr7 hf7; have hb7 := hb6.trans (hf7.below hb6.size (fun i e => (hr6.lt i e).1)))
                      | (refine step_app (by rfl) _ _ (by rfl) wr.heap.size [] R1 R1 H1.out (.slice none 0 0) (by rfl) (World.ownsRow_nil _ _ _ _) _ _ _ (by rfl) L10.out (news_nil hD0.out _) M1.out (Nat.le_refl _) ?_; intro A6 c6 w6 hr6 hf6; have hb6 := (below_drew wr 1).trans (hf6.below (Nat.le_refl _) (fun i e => by cases e)))))
                  all_goals
                    have Hb9 := Lib.hid h9
                    have B9 := Lib.hid hb9f
                    have BW9 := Lib.hid (Fresh.below BWi.out B9.out)
                    have La9 := Lib.hid (lies_to Lai.out B9.out)
                    clear h9 hb9f
                    go_wp2_with (first
                      | (go_at_call 18; refine (does_at w12).mono ?_; rintro e w13 ⟨rfl, hb⟩; have BW13 := Lib.hid (Fresh.below BW12.out hb); clear hb)
                      | (go_at_call 10; refine (c_same (L := N) Hc11.out La11.out LN.out).mono ?_; rintro e w12 ⟨rfl, hb⟩; have BW12 := Lib.hid (Fresh.below BW11.out hb); clear hb)
                      | (go_at_call 10; refine (c_same (L := N) Hb10.out La10.out LN.out).mono ?_; rintro e w11 ⟨rfl, hb⟩; have Hc11 := Lib.hid (lies_to Hc10.out hb); have La11 := Lib.hid (lies_to La10.out hb); have BW11 := Lib.hid (Fresh.below BW10.out hb); clear hb)
                      | (go_at_call 8; refine (c_norm HC3.out La9.out LN5.out).mono ?_; rintro e w10 ⟨A10, c10, rfl, h1, hb⟩; have Hc10 := Lib.hid h1; have Hb10 := Lib.hid (lies_to Hb9.out hb); have La10 := Lib.hid (lies_to La9.out hb); have BW10 := Lib.hid (Fresh.below BW9.out hb); clear h1 hb))
                    go_ret
                    exact ⟨rfl, BW13.out⟩
                · have hHB := Lib.hid hkM
                  clear hkM hcap
                  go_wp2
                  go_region_held3 (fun _ => True)
                    (first | trivial)
                    ((first
                      | (go_at_call 8; refine (c_norm HCn.out (row_lies enc2_len hr8) M5.out).mono ?_; rintro e w9 ⟨A9, c9, rfl, h9, hb9⟩; have hb9f := hb8.trans (hb9.mono hb8.size))
                      | (refine step_app (by rfl) _ _ (by rfl) wr.heap.size R2 N3 R3 H3.out (.slice A7 R2.length c7) (by rfl) hr7 ⟨g, 0, none⟩ _ _ (by rfl) L3.out (N3h.out _ hb7) M3.out hb7.size ?_; intro A8 c8 w8 hr8 hf8; have hb8 := hb7.trans (hf8.below hb7.size (fun i e => (hr7.lt i e).1)))
                      | (refine step_app (by rfl) _ _ (by rfl) wr.heap.size R1 L R2 H2.out (.slice A6 R1.length c6) (by rfl) hr6 ⟨g, 0, none⟩ _ _ (by rfl) rfl (N2h.out _ hb6) M2.out hb6.size ?_; intro A7 c7 w7 hr7 hf7; have hb7 := hb6.trans (hf7.below hb6.size (fun i e => (hr6.lt i e).1)))
                      | (refine step_app (by rfl) _ _ (by rfl) wr.heap.size [] R1 R1 H1.out (.slice none 0 0) (by rfl) (World.ownsRow_nil _ _ _ _) ⟨g, k * 2, none⟩ _ _ (by rfl) L1.out (N1h.out _ (below_drew wr 1)) M1.out (Nat.le_refl _) ?_; intro A6 c6 w6 hr6 hf6; have hb6 := (below_drew wr 1).trans (hf6.below (Nat.le_refl _) (fun i e => by cases e)))))
                  all_goals
                    have Hb9 := Lib.hid h9
                    have B9 := Lib.hid hb9f
                    have BW9 := Lib.hid (Fresh.below BWi.out B9.out)
                    have La9 := Lib.hid (lies_to Lai.out B9.out)
                    clear h9 hb9f
                    go_wp2_with (first
                      | (go_at_call 18; refine (does_at w12).mono ?_; rintro e w13 ⟨rfl, hb⟩; have BW13 := Lib.hid (Fresh.below BW12.out hb); clear hb)
                      | (go_at_call 10; refine (c_same (L := N) Hc11.out La11.out LN.out).mono ?_; rintro e w12 ⟨rfl, hb⟩; have BW12 := Lib.hid (Fresh.below BW11.out hb); clear hb)
                      | (go_at_call 10; refine (c_same (L := N) Hb10.out La10.out LN.out).mono ?_; rintro e w11 ⟨rfl, hb⟩; have Hc11 := Lib.hid (lies_to Hc10.out hb); have La11 := Lib.hid (lies_to La10.out hb); have BW11 := Lib.hid (Fresh.below BW10.out hb); clear hb)
                      | (go_at_call 8; refine (c_norm HC3.out La9.out LN5.out).mono ?_; rintro e w10 ⟨A10, c10, rfl, h1, hb⟩; have Hc10 := Lib.hid h1; have Hb10 := Lib.hid (lies_to Hb9.out hb); have La10 := Lib.hid (lies_to La9.out hb); have BW10 := Lib.hid (Fresh.below BW9.out hb); clear h1 hb))
                    go_ret
                    exact ⟨rfl, BW13.out⟩
end Go.Proofs.Ytfehlnmkeniniaa.E
