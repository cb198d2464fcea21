/- The document's put, walked. Conditions: the list lies in memory of its own. -/
import Derived.Deep.CutBlock
import Derived.Test.YtpmgkmodpneiiaaNor
namespace Go.Proofs.Ytpmgkmodpneiiaa.E
open Go.RowKit Go.Sort Go.Shelf
open Go.Proofs.Ytpmgkmodpneiiaa.Ma
set_option linter.unusedVariables false
set_option linter.unusedSimpArgs false
section
variable {w : World} {ops : Array Oper} {rest : List Oper} {o : Oper} {a : Act} {Q : Exit → Act → World → Prop}
theorem cells_one2 {L : List Ed} : ∀ u ∈ cellsK enc2 L, u.oneCell' = true := by
  intro u hu
  simp only [cellsK, List.mem_flatMap] at hu
  obtain ⟨p, _, hp⟩ := hu
  exact enc2_one p u hp
/-- append of edges that lie there to a row of the call's own. -/
theorem wp_app (hgd : o.guard = none) (s x : Operand) (ho : o.op = .call { callee := .builtin .append, args := #[s, x], argTypes := #[22, 22] })
    (B : Nat) (L N R : List Ed) (hR : L ++ N = R) (v : Value) (hs : a.eval s = v) (hown : w.ownsRow B 27 2 v L.length (cellsK enc2 L))
    (ad : Addr) (m c : Nat) (hx : a.eval x = .slice (some ad) m c) (hm : N.length = m) (hnews : ∀ j u, (cellsK enc2 N)[j]? = some u → w.cell? (ad.add j) = some u) (hlen : R.length ≤ 2000000) (hB : B ≤ w.heap.size)
    (h : ∀ A' c' w', w'.ownsRow B 27 2 (.slice A' R.length c') R.length (cellsK enc2 R) → Fr (fun k => v.ownBlock = some k) w w' → wpList Try.prog ops Q rest (a.put o.dst (.slice A' R.length c')) w') : wpList Try.prog ops Q (o :: rest) a w := by
  obtain ⟨i0, hi, hz0, hz1, hz2⟩ := info_parts info24
  subst hR hm
  rw [List.length_append] at hlen
  refine wpList_append_own_at _ hgd s x 22 ho B 27 i0 _ 2 16 Try.underlying22 hi hz0 hz1 hz2 rfl (by decide) v L.length (cellsK enc2 L) hs hown ad N.length c (cellsK enc2 N) hx (by rw [cellsK_length enc2_len]) hnews cells_one2 (by unfold maxLen; omega) (by omega) hB ?_
  intro v' w' hr hg _ _
  rw [← cellsK_append, ← List.length_append] at hr
  obtain ⟨A', c', rfl, _, _⟩ := row_open enc2_len hr
  exact h A' c' w' hr (Fr.of_grownR hg)
theorem wp_app0 (hgd : o.guard = none) (s x : Operand) (ho : o.op = .call { callee := .builtin .append, args := #[s, x], argTypes := #[22, 22] })
    (B : Nat) (L : List Ed) (v : Value) (hs : a.eval s = v) (hown : w.ownsRow B 27 2 v L.length (cellsK enc2 L)) (hx : a.eval x = .slice none 0 0)
    (h : wpList Try.prog ops Q rest (a.put o.dst v) w) : wpList Try.prog ops Q (o :: rest) a w := by
  obtain ⟨i0, hi, hz0, hz1, hz2⟩ := info_parts info24
  refine wpList_plain hgd fun K hK => ?_
  have hr := run_append_owned_none (P := Try.prog) w B 22 o.type 27 i0 2 Try.underlying22 hi v L.length (cellsK enc2 L) hown
  unfold Oper.wp execOp
  simp only [ho, resolve, invoke, builtin, Sem.run_bind, Sem.run_pure, Result.andThen_ok, List.map_toArray, List.map_cons, List.map_nil, hs, hx, hr]
  exact hK _ _ h
end
theorem news_one {w : World} {b : Nat} {x1 x2 : Int} (h : w.heap[b]? = some (.cells #[.int .i64 x1, .int .i64 x2] 27 (0, 0))) : ∀ j u, (cellsK enc2 [(x1, x2)])[j]? = some u → w.cell? ((⟨b, 0, none⟩ : Addr).add j) = some u := by
  rw [cellsK_one]
  exact World.news_of_block h
theorem news_nil {w : World} {N : List Ed} (h : N = []) (ad : Addr) : ∀ j u, (cellsK enc2 N)[j]? = some u → w.cell? (ad.add j) = some u := by
  subst h
  intro j u hu
  simp [cellsK] at hu
theorem wrapq {q : Nat} (h : q ≤ 500000) : IntKind.i64.wrap (q : Int) = (q : Int) := by
  simp only [IntKind.wrap, IntKind.bits, IntKind.signed]
  simp
  omega
set_option maxRecDepth 100000 in
set_option maxHeartbeats 4000000 in
theorem put_at (B : Nat) (v : Value) (M : List Ed) (x1 x2 : Int) (o : Bool) (w : World) (h : w.ownsRow B 27 2 v M.length (cellsK enc2 M)) (hB : B ≤ w.heap.size) (hlen : M.length ≤ 500000) :
    Calls Try.prog 27 #[v, .agg #[.int .i64 x1, .int .i64 x2], .bool o] w fun e w' => ∃ A' c', e = .returned (.slice A' (putF M (x1, x2) o).length c') ∧ w'.ownsRow B 27 2 (.slice A' (putF M (x1, x2) o).length c') (putF M (x1, x2) o).length (cellsK enc2 (putF M (x1, x2) o)) ∧ Below w.heap.size w w' := by
  obtain ⟨A, c, rfl, hc, hcm⟩ := row_open enc2_len h
  obtain ⟨W, hW, gW, hbl, hsz, hg0⟩ := boxed2 w x1 x2 27
  have HRow := Lib.hid ((Fr.of_below hbl).row h (fun _ _ e => e))
  have HL := Lib.hid (row_lies enc2_len ((Fr.of_below hbl).row h (fun _ _ e => e)))
  have HGW := Lib.hid gW
  have HBL := Lib.hid hbl
  have HBB := Lib.hid hB
  have HLen := Lib.hid hlen
  obtain ⟨p, hp⟩ : ∃ p, posF M (x1, x2) M.length = p := ⟨_, rfl⟩
  have HPle := Lib.hid (hp ▸ pos_le M (x1, x2) M.length)
  have HPa := Lib.hid (show 0 < p → ¬ Ahead (x1, x2) (M.getD (p - 1) (0, 0)) from hp ▸ pos_ahead M (x1, x2) M.length)
  have HPb := Lib.hid (show ∀ j, p ≤ j → j < M.length → Ahead (x1, x2) (M.getD j (0, 0)) from fun j h1 h2 => pos_back M (x1, x2) M.length j (hp ▸ h1) h2)
  obtain ⟨R, hR⟩ : ∃ R, putF M (x1, x2) o = R := ⟨_, rfl⟩
  rw [hR]
  have HRdef := Lib.hid (show (if o = true ∧ 0 < p ∧ M.getD (p - 1) (0, 0) = (x1, x2) then M else M.take p ++ (x1, x2) :: M.drop p) = R by rw [← hR, ← hp]; rfl)
  have lW : w.heap.size < W.heap.size := by omega
  clear h hbl hB hp hR gW hg0 hsz
  go_enter Try.func27, Try.ntmps27
  go_wp2
  obtain ⟨bx, hbx⟩ : ∃ b, w.heap.size = b := ⟨_, rfl⟩
  rw [hbx] at HGW lW HBL HBB ⊢
  have HBx := Lib.hid hbx
  clear hbx
  go_loopw [7] (fun i wr => ∃ k : Nat, p ≤ k ∧ k ≤ M.length ∧ i = .int .i64 k ∧ Grown W wr) (fun i _ => (intOf i).toNat)
  case atStart => exact ⟨M.length, HPle.out, Nat.le_refl _, rfl, Grown.refl _⟩
  case round =>
    obtain ⟨k, hpk, hkM, rfl, hG⟩ := hrel
    have HG := Lib.hid hG
    clear hG
    go_upto_region 2 with (fail)
    go_cut [21] from 11 to 23 (fun s wx => s = .bool (decide (p < k)) ∧ Grown W wx)
    case first =>
      have hx2 := (HG.out.below.block bx lW).trans HGW.out
      have s0 := fun n os => cell_grown (Nat.lt_of_lt_of_le lW HG.out.below.size) (cell_of_heap (i := 0) hx2 rfl) n os
      have s1 := fun n os => cell_grown (Nat.lt_of_lt_of_le lW HG.out.below.size) (cell_of_heap (i := 1) hx2 rfl) n os
      have mixed : Try.prog.follows .mixedOrders = true := by kernel_rfl
      rcases Nat.eq_zero_or_pos k with rfl | hk0
      · obtain rfl : p = 0 := by omega
        clear hx2 hpk hkM
        go_quiet (fail)
        go_wp2
        go_meet
        exact ⟨rfl, HG.out.drewN _⟩
      · obtain ⟨q, rfl⟩ : ∃ q, k = q + 1 := ⟨k - 1, by omega⟩
        obtain ⟨⟨y1, y2⟩, hy⟩ : ∃ x, M[q]? = some x := ⟨M[q], List.getElem?_eq_getElem _⟩
        obtain ⟨g, o', rfl, hg, q0, q1⟩ := lies2 (HL.out.below HG.out.below (Nat.le_refl _)) hy
        have t0 := fun n os => cell_grown (a := ⟨g, o' + q * 2, none⟩) hg q0 n os
        have t1 := fun n os => cell_grown (a := ⟨g, o' + q * 2 + 1, none⟩) hg q1 n os
        have ha : decide (Ahead (x1, x2) (y1, y2)) = decide (p < q + 1) := by
          rw [decide_eq_decide]
          constructor
          · intro ha
            rcases Nat.lt_or_ge p (q + 1) with h | h
            · exact h
            · have e : p = q + 1 := by omega
              have := HPa.out (by omega)
              rw [e, Nat.add_sub_cancel, getD_at (by omega), (List.getElem?_eq_some_iff.1 hy).2] at this
              exact absurd ha this
          · intro h
            have ha := HPb.out q (by omega) (by omega)
            rwa [getD_at (by omega), (List.getElem?_eq_some_iff.1 hy).2] at ha
        have HLs := Lib.hid (fun W => less_any (x1, x2) (y1, y2) W)
        rw [ha] at HLs
        obtain ⟨bb, hbb⟩ : ∃ b, decide (p < q + 1) = b := ⟨_, rfl⟩
        rw [hbb] at HLs
        have HBb := Lib.hid hbb
        clear hbb
        have i1 : (0 : Int) < ((q + 1 : Nat) : Int) := by omega
        have i2 : decide (0 < q + 1) = true := by simp
        have i3 : ((q + 1 : Nat) : Int) - 1 = (q : Int) := by omega
        have i4 : (q : Int) < (M.length : Int) := by omega
        have i5 : IntKind.i64.wrap (q : Int) = (q : Int) := wrapq (by omega)
        clear hy hg q0 q1 ha hkM hpk hk0 hx2
        go_quiet_grown ((go_at_call 38; exact Calls.grown_of (HLs.out _)))
        go_wp2
        go_meet
        exact ⟨by rw [HBb.out], HG.out.trans ⟨_, _, rfl⟩⟩
    case rest =>
      obtain ⟨rfl, hgz⟩ := hcut
      have HGz := Lib.hid hgz
      clear hgz
      by_cases hlt : p < k
      · rw [decide_eq_true hlt]
        obtain ⟨q, rfl⟩ : ∃ q, k = q + 1 := ⟨k - 1, by omega⟩
        have HKM := Lib.hid hkM
        have HPk := Lib.hid hlt
        have hq : q ≤ 500000 := by omega
        clear hkM hlt hpk
        go_wp2
        go_roundw
        case rel => exact ⟨q, by have := HPk.out; omega, by have := HKM.out; omega, by go_num, HGz.out⟩
        case measure => simp [intOf]
      · obtain rfl : k = p := by omega
        rw [show decide (k < k) = false by simp]
        clear hlt hpk
        go_upto_region 4 with (fail)
        obtain ⟨bo, hbo⟩ : ∃ b, decide (o = true ∧ 0 < k ∧ M.getD (k - 1) (0, 0) = (x1, x2)) = b := ⟨_, rfl⟩
        have HBo := Lib.hid hbo
        clear hbo
        go_cut [37] from 24 to 51 (fun s wx => s = .bool bo ∧ Grown W wx)
        case first =>
          cases o
          · have e : bo = false := by rw [← HBo.out]; simp
            subst e
            clear hkM
            go_quiet (fail)
            go_wp2
            go_meet
            exact ⟨rfl, HGz.out.drewN _⟩
          · rcases Nat.eq_zero_or_pos k with rfl | hk0
            · have e : bo = false := by rw [← HBo.out]; simp
              subst e
              clear hkM
              go_quiet (fail)
              go_wp2
              go_meet
              exact ⟨rfl, HGz.out.drewN _⟩
            · obtain ⟨q, rfl⟩ : ∃ q, k = q + 1 := ⟨k - 1, by omega⟩
              obtain ⟨⟨y1, y2⟩, hy⟩ : ∃ x, M[q]? = some x := ⟨M[q], List.getElem?_eq_getElem _⟩
              have hx2 := (HGz.out.below.block bx lW).trans HGW.out
              have s0 := cell_of_heap (i := 0) hx2 rfl
              have s1 := cell_of_heap (i := 1) hx2 rfl
              obtain ⟨g, o', rfl, hg, q0, q1⟩ := lies2 (HL.out.below HGz.out.below (Nat.le_refl _)) hy
              have eq := eq24 y1 y2 x1 x2
              have e : decide (y1 = x1 ∧ y2 = x2) = bo := by
                rw [← HBo.out, decide_eq_decide, Nat.add_sub_cancel, getD_at (by omega), (List.getElem?_eq_some_iff.1 hy).2]
                simp
              rw [e] at eq
              have i1 : (0 : Int) < ((q + 1 : Nat) : Int) := by omega
              have i2 : decide (0 < q + 1) = true := by simp
              have i3 : ((q + 1 : Nat) : Int) - 1 = (q : Int) := by omega
              have i4 : (q : Int) < (M.length : Int) := by omega
              have i5 : IntKind.i64.wrap (q : Int) = (q : Int) := wrapq (by omega)
              clear hy hg hkM hk0 hx2 e
              go_quiet (fail)
              go_wp2
              go_meet
              exact ⟨rfl, HGz.out.drewN _⟩
        case rest =>
          obtain ⟨rfl, hg2⟩ := hcut
          have HG2 := Lib.hid (HBL.out.trans (hg2.below.mono (Nat.le_of_lt lW)))
          have HR0 := Lib.hid ((Fr.of_below hg2.below).row HRow.out (fun _ _ e => e))
          have hxc := (hg2.below.block bx lW).trans HGW.out
          have lx := lt_of_heap hxc
          have HXC := Lib.hid hxc
          have s0 := cell_of_heap (i := 0) hxc rfl
          have s1 := cell_of_heap (i := 1) hxc rfl
          clear hg2 hxc
          cases bo
          · have hRd : M.take k ++ (x1, x2) :: M.drop k = R := by have := HRdef.out; rw [if_neg (decide_eq_false_iff_not.1 HBo.out)] at this; exact this
            have HRl := Lib.hid (show R.length ≤ 2000000 by rw [← hRd]; simp; omega)
            have HBw := Lib.hid (Nat.le_trans HBB.out (Nat.le_of_lt lx))
            rcases HR0.out.2 with ⟨hv, hn⟩ | ⟨g, cap, cur, hv, _⟩
            · injection hv with e1 _ e2
              subst e1 e2
              obtain rfl : M = [] := List.length_eq_zero_iff.1 hn
              obtain rfl : k = 0 := by simp at hkM; exact hkM
              have HR1 := Lib.hid (show [] ++ [(x1, x2)] = R from hRd)
              clear hRd hn hkM hlen hc hcm
              simp only [List.length_nil, Int.natCast_zero, Int.ofNat_zero]
              go_wp2_with (first
                | (at_builtin; refine wp_app0 rfl _ _ rfl wc.heap.size R (.slice A2 R.length c2) rfl HO2.out rfl ?_)
                | (at_builtin; refine wp_app rfl _ _ rfl wc.heap.size [] [(x1, x2)] R HR1.out (.slice none 0 0) rfl (World.ownsRow_nil _ _ _ _) ⟨wc.heap.size, 0, none⟩ 1 1 rfl rfl (news_one (heap_alloc_new wc _)) HRl.out (by simp) ?_; intro A2 c2 w2 hr2 hf2; have HO2 := Lib.hid hr2; have HB2 := Lib.hid (((Below.refl wc.heap.size wc).alloc (Nat.le_refl _) (.cells #[.int .i64 x1, .int .i64 x2] 27)).trans (hf2.below (by simp) (fun k e => by cases e))); clear hr2 hf2)
                | (at_builtin; refine wp_app0 rfl _ _ rfl wc.heap.size [] (.slice none 0 0) rfl (World.ownsRow_nil _ _ _ _) rfl ?_))
              go_ret
              exact ⟨_, _, rfl, row_base HO2.out HBw.out, HBx.out ▸ HG2.out.trans (HB2.out.mono (Nat.le_of_lt lx))⟩
            · injection hv with e1 _ e2
              subst e1 e2
              obtain ⟨R1, hR1⟩ : ∃ R1, M.take k = R1 := ⟨_, rfl⟩
              obtain ⟨R2, hR2⟩ : ∃ R2, R1 ++ [(x1, x2)] = R2 := ⟨_, rfl⟩
              obtain ⟨R3, hR3⟩ : ∃ R3, M.drop k = R3 := ⟨_, rfl⟩
              have H1 := Lib.hid (show [] ++ R1 = R1 from rfl)
              have H2 := Lib.hid hR2
              have H3 := Lib.hid (show R2 ++ R3 = R by rw [← hR2, ← hRd, hR1, hR3]; simp)
              have L1 := Lib.hid (show R1.length = k by rw [← hR1, List.length_take]; omega)
              have L3 := Lib.hid (show R3.length = M.length - k by rw [← hR3, List.length_drop])
              have B1 := Lib.hid (show R1.length ≤ 2000000 by rw [L1.out]; omega)
              have B2 := Lib.hid (show R2.length ≤ 2000000 by rw [← hR2, List.length_append, L1.out]; simp; omega)
              have hLi := row_lies enc2_len HR0.out
              have N1 := Lib.hid (show ∀ j u, (cellsK enc2 R1)[j]? = some u → wc.cell? ((⟨g, 0, none⟩ : Addr).add j) = some u from fun j u hu => lies_news (n := k) enc2_len hLi (Below.refl _ _) 0 j u (by rw [List.drop_zero, hR1]; exact hu))
              have N3 := Lib.hid (show ∀ W', Below wc.heap.size wc W' → ∀ j u, (cellsK enc2 R3)[j]? = some u → W'.cell? ((⟨g, k * 2, none⟩ : Addr).add j) = some u from fun W' hW' j u hu => by have := lies_news (n := M.length - k) enc2_len hLi hW' k j u (by rw [List.take_of_length_le (by rw [List.length_drop]; omega), hR3]; exact hu); rwa [Nat.zero_add] at this)
              have b0 : (0 : Int) ≤ (k : Int) := by omega
              have b1 : (k : Int) ≤ (M.length : Int) := by omega
              have b2 : (k : Int) ≤ (c : Int) := by omega
              have b3 : (M.length : Int) ≤ (c : Int) := by omega
              clear hRd hR1 hR2 hR3 hLi
              have hb8 : k ≤ M.length ∧ M.length ≤ c := ⟨hkM, hc⟩
              have HB8 := Lib.hid hb8
              clear hb8 hkM hc
              by_cases hck : c = k
              · have hN3 := Lib.hid (show R3 = [] from List.length_eq_zero_iff.1 (by have := HB8.out; rw [L3.out]; omega))
                obtain rfl : c = M.length := by have := HB8.out; omega
                obtain rfl : k = M.length := hck.symm
                have L30 := Lib.hid (show R3.length = 0 by rw [hN3.out]; rfl)
                clear hck
                go_wp2_with (first
                  | (at_builtin; refine wp_app rfl _ _ rfl wc.heap.size R2 R3 R H3.out (.slice A2 R2.length c2) rfl HO2.out _ _ _ rfl L3.out (news_nil hN3.out _) HRl.out HB2.out.size ?_; intro A3 c3 w3 hr3 hf3; have HO3 := Lib.hid hr3; have HB3 := Lib.hid (HB2.out.trans (hf3.below HB2.out.size (fun i e => (HO2.out.lt i e).1))); clear hr3 hf3)
                  | (at_builtin; refine wp_app rfl _ _ rfl wc.heap.size R2 R3 R H3.out (.slice A2 R2.length c2) rfl HO2.out _ _ _ rfl L30.out (news_nil hN3.out _) HRl.out HB2.out.size ?_; intro A3 c3 w3 hr3 hf3; have HO3 := Lib.hid hr3; have HB3 := Lib.hid (HB2.out.trans (hf3.below HB2.out.size (fun i e => (HO2.out.lt i e).1))); clear hr3 hf3)
                  | (at_builtin; refine wp_app rfl _ _ rfl wc.heap.size R1 [(x1, x2)] R2 H2.out (.slice A1 R1.length c1) rfl (HO1.out.alloc _) ⟨w1.heap.size, 0, none⟩ 1 1 rfl rfl (news_one (heap_alloc_new w1 _)) B2.out (Nat.le_trans HB1.out.size (by simp)) ?_; intro A2 c2 w2 hr2 hf2; have HO2 := Lib.hid hr2; have HB2 := Lib.hid ((HB1.out.alloc HB1.out.size (.cells #[.int .i64 x1, .int .i64 x2] 27)).trans (hf2.below (Nat.le_trans HB1.out.size (by simp)) (fun i e => (HO1.out.lt i e).1))); clear hr2 hf2)
                  | (at_builtin; refine wp_app rfl _ _ rfl wc.heap.size [] R1 R1 H1.out (.slice none 0 0) rfl (World.ownsRow_nil _ _ _ _) ⟨g, 0, none⟩ _ _ rfl L1.out N1.out B1.out (Nat.le_refl _) ?_; intro A1 c1 w1 hr1 hf1; have HO1 := Lib.hid hr1; have HB1 := Lib.hid (hf1.below (Nat.le_refl _) (fun i e => by cases e)); have s2 := (HB1.out.cell (p := ⟨bx, 0, none⟩) lx).trans s0; have s3 := (HB1.out.cell (p := ⟨bx, 1, none⟩) lx).trans s1; clear hr1 hf1))
                go_ret
                exact ⟨_, _, rfl, row_base HO3.out HBw.out, HBx.out ▸ HG2.out.trans (HB3.out.mono (Nat.le_of_lt lx))⟩
              · go_wp2_with (first
                  | (at_builtin; refine wp_app rfl _ _ rfl wc.heap.size R2 R3 R H3.out (.slice A2 R2.length c2) rfl HO2.out ⟨g, k * 2, none⟩ (M.length - k) (c - k) rfl L3.out (N3.out _ HB2.out) HRl.out HB2.out.size ?_; intro A3 c3 w3 hr3 hf3; have HO3 := Lib.hid hr3; have HB3 := Lib.hid (HB2.out.trans (hf3.below HB2.out.size (fun i e => (HO2.out.lt i e).1))); clear hr3 hf3)
                  | (at_builtin; refine wp_app rfl _ _ rfl wc.heap.size R1 [(x1, x2)] R2 H2.out (.slice A1 R1.length c1) rfl (HO1.out.alloc _) ⟨w1.heap.size, 0, none⟩ 1 1 rfl rfl (news_one (heap_alloc_new w1 _)) B2.out (Nat.le_trans HB1.out.size (by simp)) ?_; intro A2 c2 w2 hr2 hf2; have HO2 := Lib.hid hr2; have HB2 := Lib.hid ((HB1.out.alloc HB1.out.size (.cells #[.int .i64 x1, .int .i64 x2] 27)).trans (hf2.below (Nat.le_trans HB1.out.size (by simp)) (fun i e => (HO1.out.lt i e).1))); clear hr2 hf2)
                  | (at_builtin; refine wp_app rfl _ _ rfl wc.heap.size [] R1 R1 H1.out (.slice none 0 0) rfl (World.ownsRow_nil _ _ _ _) ⟨g, 0, none⟩ k c rfl L1.out N1.out B1.out (Nat.le_refl _) ?_; intro A1 c1 w1 hr1 hf1; have HO1 := Lib.hid hr1; have HB1 := Lib.hid (hf1.below (Nat.le_refl _) (fun i e => by cases e)); have s2 := (HB1.out.cell (p := ⟨bx, 0, none⟩) lx).trans s0; have s3 := (HB1.out.cell (p := ⟨bx, 1, none⟩) lx).trans s1; clear hr1 hf1))
                go_ret
                exact ⟨_, _, rfl, row_base HO3.out HBw.out, HBx.out ▸ HG2.out.trans (HB3.out.mono (Nat.le_of_lt lx))⟩
          · have hRd : M = R := by have := HRdef.out; rw [if_pos (decide_eq_true_iff.1 HBo.out)] at this; exact this
            subst hRd
            clear hkM
            go_wp2
            go_ret
            exact ⟨_, _, rfl, HR0.out, HBx.out ▸ HG2.out⟩
end Go.Proofs.Ytpmgkmodpneiiaa.E
