/- TruthLabels: the law walked. -/
import Derived.Test.YtpmgkmodpneiiaaLbp
import Derived.Test.YtpmgkmodpneiiaaOpg
namespace Go.Proofs.Ytpmgkmodpneiiaa.E
open Go.RowKit Go.Sort Go.Shelf
open Go.Proofs.Ytpmgkmodpneiiaa.Ma
set_option linter.unusedVariables false
set_option linter.unusedSimpArgs false
theorem step_app {w : World} {ops : Array Oper} {o : Oper} {a : Act} {K : Act → World → Prop} {Q : Exit → Act → World → Prop} {E : Prop} (hgd : o.guard = none) (s x : Operand) (ho : o.op = .call { callee := .builtin .append, args := #[s, x], argTypes := #[22, 22] })
    (B : Nat) (L N R : List Ed) (hR : L ++ N = R) (v : Value) (hs : a.eval s = v) (hown : w.ownsRow B 27 2 v L.length (cellsK enc2 L))
    (ad : Addr) (m c : Nat) (hx : a.eval x = .slice (some ad) m c) (hm : N.length = m) (hnews : ∀ j u, (cellsK enc2 N)[j]? = some u → w.cell? (ad.add j) = some u) (hlen : R.length ≤ 2000000) (hB : B ≤ w.heap.size)
    (h : ∀ A' c' w', w'.ownsRow B 27 2 (.slice A' R.length c') R.length (cellsK enc2 R) → Fr (fun k => v.ownBlock = some k) w w' → K (a.put o.dst (.slice A' R.length c')) w') :
    if Region.wanted o (yielded ops a.tmps) = true then Oper.wp Try.prog o a w K Q else E := by
  have hw : Region.wanted o (yielded ops a.tmps) = true := by simp [Region.wanted, hgd]
  rw [if_pos hw]
  obtain ⟨i0, hi, hz0, hz1, hz2⟩ := info_parts info24
  subst hR hm
  rw [List.length_append] at hlen
  obtain ⟨v', w', hr, h2, h3, h4, h5⟩ := run_append_own_at (P := Try.prog) w B 22 o.type 27 i0 _ 2 16 Try.underlying22 hi hz0 hz1 hz2 rfl (by decide) v L.length (cellsK enc2 L) hown ad N.length c (cellsK enc2 N) (by rw [cellsK_length enc2_len]) hnews cells_one2 (by unfold maxLen; omega) (by omega) hB
  rw [← cellsK_append, ← List.length_append] at h2
  obtain ⟨A', c', rfl, _, _⟩ := row_open enc2_len h2
  unfold Oper.wp execOp
  simp only [ho, resolve, invoke, builtin, Sem.run_bind, Sem.run_pure, Result.andThen_ok, List.map_toArray, List.map_cons, List.map_nil, hs, hx, hr]
  exact h A' c' w' h2 (Fr.of_grownR h3)
theorem num_n {w : World} {g b n : Nat} {M : List Nat} (h : UB w g M) (hb : UB w b M) (hm : M.length = n) (hn : n ≤ 1000) : Calls Try.prog 15 #[.slice (some ⟨g, 0, none⟩) n n, .slice (some ⟨b, 0, none⟩) n n] w fun e w' => e = .returned (.bool true) ∧ Below w.heap.size w w' := by
  have := numbers_at (some ⟨g, 0, none⟩) (some ⟨b, 0, none⟩) n n (ints M) w h.lies hb.lies (by rw [ints_len]; omega)
  rw [ints_len, hm] at this
  exact this.mono fun e w' ⟨he, m, hw⟩ => ⟨he, by rw [hw]; exact below_drewNg w m⟩
attribute [local irreducible] wpQuiet
set_option maxRecDepth 100000 in
set_option maxHeartbeats 4000000 in
theorem lablaw_at (A : Option Addr) (c : Nat) (N : Int) (P : List Ed) (w : World) (hN : 0 ≤ N ∧ N ≤ 255) (hL : Lies enc8 2 w A P) (hb8 : ∀ p ∈ P, (0 ≤ p.1 ∧ p.1 ≤ 255) ∧ 0 ≤ p.2 ∧ p.2 ≤ 255) (hlen : P.length ≤ 300) :
    Calls Try.prog 6 #[.agg #[.int .u8 N, .slice A P.length c]] w fun e w' => e = .returned (.bool true) ∧ Below w.heap.size w w' := by
  obtain ⟨W, hW, gW, hbl, hsz⟩ := box_new w (.cells #[.int .u8 N, .slice A P.length c] 41 (0, 0))
  have b0 : W.cell? ⟨w.heap.size, 0, none⟩ = some (.int .u8 N) := cell_of_heap (i := 0) gW rfl
  have b1 : W.cell? ⟨w.heap.size, 1, none⟩ = some (.slice A P.length c) := cell_of_heap (i := 1) gW rfl
  have HB := Lib.hid hbl
  have HMA := made_at A c N P W hN (hL.below hbl (Nat.le_refl _)) hb8 hlen
  have hg := made_good (N := N) hlen
  have hm := madeN_in (N := N)
  obtain ⟨n, hn⟩ : ∃ n : Nat, madeN N = (n : Int) := ⟨(madeN N).toNat, by omega⟩
  obtain ⟨L, hLL⟩ : ∃ L, madeL N P = L := ⟨_, rfl⟩
  rw [hn, hLL] at HMA
  rw [hn, hLL, Int.toNat_natCast] at hg
  have HM := Lib.hid HMA
  have HG := Lib.hid hg
  have hn1 := hg.n1
  have hn2 := hg.n2
  obtain ⟨hg2, hnt⟩ := turned_good hg
  have HNT := Lib.hid hnt
  obtain ⟨low, hlow⟩ : ∃ o, (labs (ofAll n L)).1 = o := ⟨_, rfl⟩
  have HLOW := Lib.hid hlow
  have HLL := Lib.hid (show low.length = n by rw [← hlow]; exact labs_len hg)
  have HOF := Lib.hid (fun (A' : Option Addr) (c' : Nat) (V : World) (h : Lies enc2 2 V A' L) => by
    have := ofr_ok A' c' n L 3 0 0 0 V h (by rw [hg.ref]; exact chk_three hn1 hn2)
    rw [job_three, hlow] at this
    exact this)
  have HOF2 := Lib.hid (fun (A' : Option Addr) (c' : Nat) (V : World) (h : Lies enc2 2 V A' (nrm (turned L))) => by
    have := ofr_ok A' c' n (nrm (turned L)) 3 0 0 0 V h (by rw [hg2.ref]; exact chk_three hn1 hn2)
    rw [job_three, labs_same hg hg2 (both_turned L), hlow] at this
    exact this)
  have HR := Lib.hid (fun V => round_at V)
  have x4 : ¬ ((300 : Int) < (P.length : Int)) := by omega
  have x5 : ¬ ((P.length : Int) > 300) := by omega
  have x6 : decide ((P.length : Int) > 300) = false := decide_eq_false x5
  have HN12 := Lib.hid (And.intro hn1 hn2)
  clear hb8 hlen hL hbl hsz gW hn hLL hg hm HMA hN hn1 hn2 hg2 hnt hlow
  go_enter Try.func6, Try.ntmps6
  go_upto_region 5 with (go_at_call 16; refine HM.out.mono ?_; rintro e w2 ⟨A', c', rfl, hl2, hb2⟩; have HL2 := Lib.hid hl2; have HB2 := Lib.hid hb2; clear hl2 hb2)
  obtain ⟨w4, hw4, gw4, hb4, hs4⟩ := box_new w2 (.cells #[.int .i64 3, .int .i64 0, .int .i64 0, .int .i64 0] 24 (0, 0))
  rw [hw4]
  obtain ⟨rb, hrb⟩ : ∃ b, w2.heap.size = b := ⟨_, rfl⟩
  have HB24 := Lib.hid hb4
  rw [hrb] at gw4 ⊢
  have z0 : w4.cell? ⟨rb, 0, none⟩ = some (.int .i64 3) := cell_of_heap (i := 0) gw4 rfl
  have z1 : w4.cell? ⟨rb, 1, none⟩ = some (.int .i64 0) := cell_of_heap (i := 1) gw4 rfl
  have z2 : w4.cell? ⟨rb, 2, none⟩ = some (.int .i64 0) := cell_of_heap (i := 2) gw4 rfl
  have z3 : w4.cell? ⟨rb, 3, none⟩ = some (.int .i64 0) := cell_of_heap (i := 3) gw4 rfl
  have HZ := Lib.hid (fun V (hV : Below w4.heap.size w4 V) => And.intro (keep_cell z0 hV) (And.intro (keep_cell z1 hV) (And.intro (keep_cell z2 hV) (keep_cell z3 hV))))
  have HL4 := Lib.hid (HL2.out.below HB24.out (Nat.le_refl _))
  have HB4 := Lib.hid (HB2.out.trans (HB24.out.mono HB2.out.size))
  clear hw4 gw4 hb4 hs4 hrb
  go_upto_region 6 with (go_at_call 12; refine (HOF.out _ _ _ HL4.out).mono ?_; rintro e w3 ⟨g, rfl, hu, hg0, hb3⟩; have HU := Lib.hid hu; have HG0 := Lib.hid hg0; have HB3 := Lib.hid hb3; clear hu hg0 hb3)
  have HB43 := Lib.hid (show Below W.heap.size W w3 from HB4.out.trans (HB3.out.mono HB4.out.size))
  have HL3 := Lib.hid (HL4.out.below HB3.out (Nat.le_refl _))
  clear z0 z1 z2 z3
  go_wp2
  go_loopw [8, 9] (fun s i wi => ∃ (k : Nat) (A1 : Option Addr) (c1 : Nat) (K : List Ed), k ≤ L.length ∧ i = .int .i64 k ∧ s = .slice A1 K.length c1 ∧ K = turned (L.take k) ∧ wi.ownsRow w3.heap.size 27 2 (.slice A1 K.length c1) K.length (cellsK enc2 K) ∧ Below w3.heap.size w3 wi) (fun _ i _ => L.length - (intOf i).toNat)
  case atStart => exact ⟨0, none, 0, [], by omega, rfl, rfl, rfl, World.ownsRow_nil _ _ _ _, Below.refl _ _⟩
  case round =>
    obtain ⟨k, A1, c1, K, hk, rfl, rfl, hK, hr, hb⟩ := hrel
    have HK := Lib.hid hK
    have HRW := Lib.hid hr
    have HBk := Lib.hid hb
    by_cases hlt : k < L.length
    · obtain ⟨⟨p1, p2⟩, hx⟩ : ∃ p, L[k]? = some p := ⟨_, List.getElem?_eq_getElem hlt⟩
      obtain ⟨bx, ox, e, _, q0, q1⟩ := lies2 (HL3.out.below hb (Nat.le_refl _)) hx
      subst e
      have i1 : (k : Int) < (L.length : Int) := by omega
      have i2 : (k : Int) < 1000 := by have := HG.out.len; omega
      have hst := turned_take hx
      obtain ⟨R, hR⟩ : ∃ R, K ++ [(p2, p1)] = R := ⟨_, rfl⟩
      have H1 := Lib.hid hR
      have HRe := Lib.hid (show R = turned (L.take (k + 1)) by rw [← hR, hK, hst])
      have HRm := Lib.hid (show R.length ≤ 2000000 by rw [HRe.out]; unfold turned; rw [List.length_map, List.length_take]; have := HG.out.len; omega)
      have HKK := Lib.hid hlt
      have HBs := Lib.hid (show w3.heap.size ≤ (wr.drew.alloc (.cells #[.int .i64 p2, .int .i64 p1] 27)).heap.size from Nat.le_trans hb.size (by simp))
      have HKE := Lib.hid (fun V (hV : Below w3.heap.size w3 V) => show V.cell? ⟨bx, ox + k * 2, none⟩ = some (.int .i64 p1) ∧ V.cell? ⟨bx, ox + k * 2 + 1, none⟩ = some (.int .i64 p2) from by
        obtain ⟨b', o', e', _, q0', q1'⟩ := lies2 (HL3.out.below hV (Nat.le_refl _)) hx
        cases e'
        exact ⟨q0', q1'⟩)
      clear hx hst hR hK hr hb hk hlt
      go_wp2
      go_region_held3 (fun V => V.cell? ⟨bx, ox + k * 2, none⟩ = some (.int .i64 p1) ∧ V.cell? ⟨bx, ox + k * 2 + 1, none⟩ = some (.int .i64 p2))
        (first | exact HKE.out _ HBk.out.drew | exact HKE.out _ (HBk.out.drew.alloc HBk.out.size _) | exact HKE.out _ ((HBk.out.alloc HBk.out.size _).drew) | exact HKE.out _ hb2)
        ((refine step_app (by rfl) _ _ (by rfl) w3.heap.size K [(p2, p1)] R H1.out (.slice A1 K.length c1) (by rfl) (HRW.out.alloc _) ⟨wr.heap.size, 0, none⟩ 1 1 (by rfl) rfl (news_one (heap_alloc_new wr _)) HRm.out HBs.out ?_; intro A2 c2 w2 hr2 hf2; have hb2 := (HBk.out.drew.alloc HBk.out.size (.cells #[.int .i64 p2, .int .i64 p1] 27)).trans (hf2.below HBs.out (fun i e => (HRW.out.lt i e).1))))
      all_goals
        have HR2 := Lib.hid hr2
        have HB2' := Lib.hid hb2
        clear hr2 hf2 hb2
        go_wp2
        go_roundw
        case rel => exact ⟨k + 1, _, _, R, by have := HKK.out; omega, by go_num, rfl, HRe.out, HR2.out, HB2'.out⟩
        case measure => have := HKK.out; simp [intOf]; omega
    · obtain rfl : k = L.length := by omega
      rw [List.take_length] at HK
      have HRN := refnorm_at A1 c1 n K wr (row_lies enc2_len hr) (by rw [HK.out]; unfold turned; rw [List.length_map]; have := HG.out.len; omega)
      have hkt : normC n K = (0, nrm (turned L)) := by rw [HK.out]; exact HNT.out
      rw [hkt] at HRN
      have HRN2 := Lib.hid HRN
      obtain ⟨y0, y1, y2, y3⟩ := HZ.out wr (HB3.out.trans (hb.mono HB3.out.size))
      clear hK hr hb hk hlt HRN hkt
      go_upto_region 12 with (go_at_call 18; refine HRN2.out.mono ?_; rintro e w5 ⟨v', rfl, hr2, hb2⟩; have HR5 := Lib.hid hr2; have HB5 := Lib.hid hb2; obtain ⟨A9, c9, rfl, _, _⟩ := row_open enc2_len hr2; have HL9 := Lib.hid (row_lies enc2_len hr2); clear hr2 hb2)
      have HB35 := Lib.hid (show Below w3.heap.size w3 w5 from HBk.out.trans (HB5.out.mono HBk.out.size))
      obtain ⟨x0, x1, x2, x3⟩ := HZ.out w5 (HB3.out.trans (HB35.out.mono HB3.out.size))
      clear y0 y1 y2 y3
      go_upto_region 13 with (go_at_call 12; refine (HOF2.out _ _ _ HL9.out).mono ?_; rintro e w6 ⟨g6, rfl, hu, hg0, hb3⟩; have HU6 := Lib.hid hu; have HG6 := Lib.hid hg0; have HB6 := Lib.hid hb3; clear hu hg0 hb3)
      have HB36 := Lib.hid (show Below w3.heap.size w3 w6 from HB35.out.trans (HB6.out.mono HB35.out.size))
      have HUW := Lib.hid (show UB w6 g low from HU.out.fr (Fr.of_below HB36.out) (fun h => h))
      have HNUM := Lib.hid (num_n HUW.out HU6.out HLL.out (by have := HN12.out.2; omega))
      clear x0 x1 x2 x3
      go_upto_region 15 with (go_at_call 15; refine HNUM.out.mono ?_; rintro e w7 ⟨rfl, hb7⟩; have HB7 := Lib.hid hb7; clear hb7)
      have HB37 := Lib.hid (show Below w3.heap.size w3 w7 from HB36.out.trans (HB7.out.mono HB36.out.size))
      have HU7 := Lib.hid (show UB w7 g low from HU.out.fr (Fr.of_below HB37.out) (fun h => h))
      have HL7 := Lib.hid (HL3.out.below HB37.out (Nat.le_refl _))
      have HBW7 := Lib.hid (show Below W.heap.size W w7 from HB43.out.trans (HB37.out.mono HB43.out.size))
      go_wp2
      go_loopw [14] (fun i wi => ∃ (k m : Nat), i = .int .i64 (k : Int) ∧ k ≤ L.length ∧ wi = w7.drewN m) (fun i _ => L.length - (intOf i).toNat)
      case atStart => exact ⟨0, 0, rfl, by omega, rfl⟩
      case round =>
        obtain ⟨k, m, rfl, hk, rfl⟩ := hrel
        by_cases hlt : k < L.length
        · obtain ⟨⟨e1, e2⟩, hx⟩ : ∃ x, L[k]? = some x := ⟨_, List.getElem?_eq_getElem hlt⟩
          obtain ⟨bx, ox, e, _, c0, c1⟩ := lies2 HL7.out hx
          subst e
          have hin := HG.out.edges _ (List.mem_of_getElem? hx)
          dsimp only at hin
          obtain ⟨a, rfl⟩ : ∃ a : Nat, e1 = (a : Int) := ⟨e1.toNat, by omega⟩
          obtain ⟨z, rfl⟩ : ∃ a : Nat, e2 = (a : Int) := ⟨e2.toNat, by omega⟩
          have d0 : w7.cell? ⟨g, a, none⟩ = some (.int .u64 (at_ low a : Int)) := HU7.out.cell (v := a) (by rw [HLL.out]; omega)
          have d1 : w7.cell? ⟨g, z, none⟩ = some (.int .u64 (at_ low z : Int)) := HU7.out.cell (v := z) (by rw [HLL.out]; omega)
          have hee : at_ low z = at_ low a := by rw [← HLOW.out]; exact (lab_edge HG.out (List.mem_of_getElem? hx)).symm
          rw [hee] at d1
          obtain ⟨u, hu⟩ : ∃ u, at_ low a = u := ⟨_, rfl⟩
          rw [hu] at d0 d1
          have i1 : (k : Int) < (L.length : Int) := by omega
          have i2 : (k : Int) < 1000 := by have := HG.out.len; omega
          have i3 : (a : Int) < (n : Int) := by omega
          have i4 : (z : Int) < (n : Int) := by omega
          have t1 : ((u : Int) != (u : Int)) = false := by simp
          have HKK := Lib.hid hlt
          clear hx hin hee hu hk hlt
          go_wp2
          go_quiet (fail)
          go_wp2
          go_roundw
          case rel => exact ⟨k + 1, _, by go_num, HKK.out, rfl⟩
          case measure => have := HKK.out; simp [intOf]; omega
        · obtain rfl : k = L.length := by omega
          clear hk hlt
          go_wp2
          go_loopw [15] (fun i wi => ∃ (v m : Nat), i = .int .i64 (v : Int) ∧ v ≤ n ∧ wi = w7.drewN m) (fun i _ => n - (intOf i).toNat)
          case atStart => exact ⟨0, m, rfl, by omega, rfl⟩
          case round =>
            obtain ⟨v, m, rfl, hv, rfl⟩ := hrel
            by_cases hvn : v < n
            · obtain ⟨hle, hroot⟩ := lab_root HG.out hvn
              rw [HLOW.out] at hle hroot
              have d0 : w7.cell? ⟨g, v, none⟩ = some (.int .u64 (at_ low v : Int)) := HU7.out.cell (v := v) (by rw [HLL.out]; omega)
              have d1 : w7.cell? ⟨g, at_ low v, none⟩ = some (.int .u64 (at_ low (at_ low v) : Int)) := HU7.out.cell (v := at_ low v) (by rw [HLL.out]; omega)
              rw [hroot] at d1
              obtain ⟨y, hy⟩ : ∃ u, at_ low v = u := ⟨_, rfl⟩
              rw [hy] at d0 d1 hle
              have i1 : (v : Int) < (n : Int) := by omega
              have i2 : (v : Int) < 1000 := by have := HN12.out.2; omega
              have i3 : (y : Int) < (n : Int) := by omega
              have i5 : (y : Int) ≤ 1000 := by omega
              have t1 : ((y : Int) != (y : Int)) = false := by simp
              have t2 : IntKind.u64.wrap (v : Int) = (v : Int) := IntWalk.u64_in _ ⟨by omega, by omega⟩
              have t3 : ¬ ((v : Int) < (y : Int)) := by omega
              have t4 : decide ((v : Int) < (y : Int)) = false := decide_eq_false t3
              have t5 : ¬ ((y : Int) > (v : Int)) := t3
              have t6 : ¬ (v < y) := by omega
              have t7 : decide (v < y) = false := decide_eq_false t6
              have HV := Lib.hid hvn
              clear hle hroot hy hv hvn
              go_wp2
              go_quiet (fail)
              go_wp2
              go_roundw
              case rel => exact ⟨v + 1, _, by go_num, HV.out, rfl⟩
              case measure => have := HV.out; simp [intOf]; omega
            · obtain rfl : v = n := by omega
              have HR2 := Lib.hid (HR.out (w7.drewN m))
              clear hv hvn
              go_wp2_with (go_at_call 11; refine HR2.out.mono ?_; rintro e w9 ⟨rfl, hb9⟩; have HB9 := Lib.hid hb9; clear hb9)
              go_ret
              exact ⟨rfl, HB.out.trans ((HBW7.out.trans (((below_drewNg w7 m).trans HB9.out).mono HBW7.out.size)).mono HB.out.size)⟩
set_option maxRecDepth 100000 in
set_option maxHeartbeats 4000000 in
theorem lab_big (A : Option Addr) (c : Nat) (N : Int) (P : List Ed) (w : World) (hlen : 300 < P.length) :
    Calls Try.prog 6 #[.agg #[.int .u8 N, .slice A P.length c]] w fun e w' => e = .returned (.bool true) ∧ Below w.heap.size w w' := by
  obtain ⟨W, hW, gW, hbl, hsz⟩ := box_new w (.cells #[.int .u8 N, .slice A P.length c] 41 (0, 0))
  have b1 : W.cell? ⟨w.heap.size, 1, none⟩ = some (.slice A P.length c) := cell_of_heap (i := 1) gW rfl
  have HB := Lib.hid hbl
  have HR := Lib.hid (round_at W)
  have x4 : (300 : Int) < (P.length : Int) := by omega
  have x5 : (P.length : Int) > 300 := x4
  have x6 : decide ((P.length : Int) > 300) = true := decide_eq_true x5
  clear gW hbl hsz hlen
  go_enter Try.func6, Try.ntmps6
  go_wp2_with (go_at_call 11; refine HR.out.mono ?_; rintro e w9 ⟨rfl, hb9⟩; have HB9 := Lib.hid hb9; clear hb9)
  go_ret
  exact ⟨rfl, HB.out.trans (HB9.out.mono HB.out.size)⟩
theorem lab_all (A : Option Addr) (len c : Nat) (N : Int) (P : List Ed) (w : World) (hP : P.length = len) (hN : 0 ≤ N ∧ N ≤ 255) (hL : Lies enc8 2 w A P) (hb8 : ∀ p ∈ P, (0 ≤ p.1 ∧ p.1 ≤ 255) ∧ 0 ≤ p.2 ∧ p.2 ≤ 255) :
    Calls Try.prog 6 #[.agg #[.int .u8 N, .slice A len c]] w fun e w' => e = .returned (.bool true) ∧ Below w.heap.size w w' := by
  subst hP
  by_cases h : P.length ≤ 300
  · exact lablaw_at A c N P w hN hL hb8 h
  · exact lab_big A c N P w (by omega)
end Go.Proofs.Ytpmgkmodpneiiaa.E
