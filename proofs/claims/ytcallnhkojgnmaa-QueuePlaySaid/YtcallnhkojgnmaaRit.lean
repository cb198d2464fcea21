/- The document's Items, walked. Conditions: the list lies readable; at most eight. -/
import Derived.Test.YtcallnhkojgnmaaRi
namespace Go.Proofs.Ytcallnhkojgnmaa.Q
open Go.RowKit Go.Sort Go.Shelf
open Go.Proofs.Ytcallnhkojgnmaa.Ma
set_option linter.unusedVariables false
set_option linter.unusedSimpArgs false
attribute [local irreducible] wpQuiet
theorem take_ahead {M : List It} {p : Nat} {x z : It} (h : ∀ q ∈ M.take p, Ahead q x) (hz : M[p]? = some z) (ha : Ahead z x) : ∀ q ∈ M.take (p + 1), Ahead q x := by
  intro q hq
  rw [List.take_add_one, hz] at hq
  simp only [Option.toList_some, List.mem_append, List.mem_singleton] at hq
  rcases hq with hq | rfl
  · exact h q hq
  · exact ha
section
variable {P : Program} (w : World)
/-- append of nil at a step of a region that draws its order. -/
theorem step_append_none {ops : Array Oper} {o : Oper} {a : Act} {K : Act → World → Prop} {Q : Exit → Act → World → Prop} {E : Prop} (hgd : o.guard = none) (s x : Operand) (t : TypeId)
    (ho : o.op = .call { callee := .builtin .append, args := #[s, x], argTypes := #[t, t] })
    (base : Nat) (e : TypeId) (i : TypeInfo) (size : Nat) (ht : P.underlying t = some (.slice e)) (hi : P.info? e = some i)
    (v : Value) (n : Nat) (xs : List Value) (hs : a.eval s = v) (hown : w.ownsRow base e size v n xs) (hx : a.eval x = .slice none 0 0) (hsz : i.size = size)
    (h : K (a.put o.dst v) w) : if Region.wanted o (yielded ops a.tmps) = true then Oper.wp P o a w K Q else E := by
  have hw : Region.wanted o (yielded ops a.tmps) = true := by simp [Region.wanted, hgd]
  rw [if_pos hw]
  have hr := run_append_owned_none (P := P) w base t o.type e i size ht hi v n xs hown
  unfold Oper.wp execOp
  simp only [ho, resolve, invoke, builtin, Sem.run_bind, Sem.run_pure, Result.andThen_ok, List.map_toArray, List.map_cons, List.map_nil, hs, hx, hr]
  exact h
end
theorem cells_one4 {L : List It} : ∀ u ∈ cellsK enc4 L, u.oneCell' = true := by
  intro u hu
  simp only [cellsK, List.mem_flatMap] at hu
  obtain ⟨p, _, hp⟩ := hu
  simp [enc4] at hp
  rcases hp with rfl | rfl | rfl | rfl <;> rfl
theorem keep4 {V V' : World} {r : Option Nat} {b : Nat} {v0 v1 v2 v3 : Value} (hg : V.grownBy V' r) (h : V.cell? ⟨b, 0, none⟩ = some v0 ∧ V.cell? ⟨b, 1, none⟩ = some v1 ∧ V.cell? ⟨b, 2, none⟩ = some v2 ∧ V.cell? ⟨b, 3, none⟩ = some v3) (hr : some b ≠ r) :
    V'.cell? ⟨b, 0, none⟩ = some v0 ∧ V'.cell? ⟨b, 1, none⟩ = some v1 ∧ V'.cell? ⟨b, 2, none⟩ = some v2 ∧ V'.cell? ⟨b, 3, none⟩ = some v3 :=
  ⟨hg.cell h.1 hr, hg.cell h.2.1 hr, hg.cell h.2.2.1 hr, hg.cell h.2.2.2 hr⟩
set_option maxRecDepth 100000 in
set_option maxHeartbeats 8000000 in
theorem ritems_at (B rb : Nat) (L : List It) (v : Value) (w : World) (h : RefAt B w rb L v) (hlen : L.length ≤ 8) :
    Calls Try.prog 18 #[.pointer (some ⟨rb, 0, none⟩)] w fun e w' => ∃ v' M, e = .returned v' ∧ M.Perm L ∧ Order M ∧ w'.ownsRow w.heap.size 37 4 v' M.length (cellsK enc4 M) ∧ Below w.heap.size w w' := by
  obtain ⟨A, c, rfl, hc, hcm⟩ := row_open enc4_len h.2
  have HL := Lib.hid (row_lies enc4_len h.2)
  have HR := Lib.hid h
  clear h
  obtain ⟨i0, hi, hz0, hz1, hz2⟩ := info_parts info37
  go_enter Try.func18, Try.ntmps18
  go_wp2
  go_loopw [3, 4] (fun s i wr => ∃ (k : Nat) (M : List It) (vi : Value), k ≤ L.length ∧ i = .int .i64 k ∧ s = vi ∧ M.Perm (L.take k) ∧ Order M ∧ (M = [] → vi = .slice none 0 0) ∧ wr.ownsRow w.heap.size 37 4 vi M.length (cellsK enc4 M) ∧ Below w.heap.size w wr) (fun _ i _ => L.length - (intOf i).toNat)
  case atStart => exact ⟨0, [], _, by omega, rfl, rfl, by simp, List.Pairwise.nil, fun _ => rfl, World.ownsRow_nil _ _ _ _, Below.refl _ _⟩
  case round =>
    obtain ⟨k, M, vi, hk, rfl, rfl, hp, ho, hn, hr, hb⟩ := hrel
    have c0 := (HR.out.below hb).c0
    have HP := Lib.hid hp
    have HO := Lib.hid ho
    have HN := Lib.hid hn
    have HRw := Lib.hid hr
    have HB := Lib.hid hb
    obtain ⟨Ai, ci, rfl, hci, hcim⟩ := row_open enc4_len hr
    clear hp ho hn hr hb
    by_cases hlt : k < L.length
    · obtain ⟨⟨x1, x2, x3, x4⟩, hx⟩ : ∃ p, L[k]? = some p := ⟨L[k], List.getElem?_eq_getElem _⟩
      obtain ⟨g, o, rfl, hg, q0, q1, q2, q3⟩ := lies4 (HL.out.below HB.out (Nat.le_refl _)) hx
      have HX := Lib.hid hx
      have hkL : (k : Int) < (L.length : Int) := by omega
      obtain ⟨W, hW, gx, hbl, hsz⟩ := boxed4 wr x1 x2 x3 x4 37
      have GX := Lib.hid gx
      have HBL := Lib.hid hbl
      have lW := lt_of_heap gx
      have hML : M.length = k := by have := HP.out.length_eq; rw [List.length_take] at this; omega
      have HML := Lib.hid hML
      have hM8 : M.length ≤ 8 := by omega
      clear hx hg gx hbl hsz hML
      go_wp2
      clear hW c0 q0 q1 q2 q3
      generalize wr.heap.size = bx at GX lW ⊢
      go_loopw [6] (fun i wy => ∃ p : Nat, p ≤ M.length ∧ i = .int .i64 p ∧ (∀ q ∈ M.take p, Ahead q (x1, x2, x3, x4)) ∧ Grown W wy) (fun i _ => M.length - (intOf i).toNat)
      case atStart => exact ⟨0, by omega, rfl, fun q hq => by simp at hq, Grown.refl _⟩
      case round =>
        obtain ⟨p, hpl, rfl, hA, hG⟩ := hrel
        have HA := Lib.hid hA
        have HG := Lib.hid hG
        clear hA hG
        obtain ⟨bb, hbb⟩ : ∃ bb, decide (∃ z, M[p]? = some z ∧ Ahead z (x1, x2, x3, x4)) = bb := ⟨_, rfl⟩
        have HBb := Lib.hid hbb
        clear hbb
        go_upto_region 7 with (fail)
        go_cut [57] from 24 to 57 (fun s wx => s = .bool bb ∧ Grown W wx)
        case first =>
          have hx7 := (HG.out.below.block bx lW).trans GX.out
          have lx := lt_of_heap hx7
          have hMl := (row_lies enc4_len HRw.out).below (HBL.out.trans (HG.out.below.mono HBL.out.size)) (Nat.le_refl _)
          by_cases hpM : p < M.length
          · obtain ⟨⟨z1, z2, z3, z4⟩, hz⟩ : ∃ p', M[p]? = some p' := ⟨M[p], List.getElem?_eq_getElem _⟩
            obtain ⟨gm, om, rfl, hgm, r0, r1, r2, r3⟩ := lies4 hMl hz
            have hiff : bb = true ↔ Ahead (z1, z2, z3, z4) (x1, x2, x3, x4) := by
              rw [← HBb.out, decide_eq_true_eq]
              constructor
              · rintro ⟨z, h1, h2⟩
                rw [hz] at h1
                cases h1
                exact h2
              · exact fun h => ⟨_, hz, h⟩
            unfold Ahead at hiff
            dsimp only at hiff
            obtain ⟨rx, hrx⟩ : ∃ r, rankZ (x1, x2, x3, x4) = r := ⟨_, rfl⟩
            obtain ⟨rz, hrz⟩ : ∃ r, rankZ (z1, z2, z3, z4) = r := ⟨_, rfl⟩
            rw [hrx, hrz] at hiff
            have HRx := Lib.hid hrx
            have HRz := Lib.hid hrz
            have hb1 : (p : Int) < (M.length : Int) := by omega
            have hb2 : decide (p < M.length) = true := by simpa using hpM
            have mixed : Try.prog.follows .mixedOrders = true := by kernel_rfl
            have s0 := fun n os => cell_grown lx (cell_of_heap (i := 0) hx7 rfl) n os
            have s1 := fun n os => cell_grown lx (cell_of_heap (i := 1) hx7 rfl) n os
            have s2 := fun n os => cell_grown lx (cell_of_heap (i := 2) hx7 rfl) n os
            have s3 := fun n os => cell_grown lx (cell_of_heap (i := 3) hx7 rfl) n os
            have t0 := fun n os => cell_grown (a := ⟨gm, om + p * 4, none⟩) hgm r0 n os
            have t1 := fun n os => cell_grown (a := ⟨gm, om + p * 4 + 1, none⟩) hgm r1 n os
            have t2 := fun n os => cell_grown (a := ⟨gm, om + p * 4 + 2, none⟩) hgm r2 n os
            have t3 := fun n os => cell_grown (a := ⟨gm, om + p * 4 + 3, none⟩) hgm r3 n os
            clear hrx hrz hz hx7 lx hMl hgm r0 r1 r2 r3
            by_cases h1 : rx < rz
            · have e : bb = true := hiff.2 (.inl h1)
              subst e
              have c1 : decide (rx < rz) = true := by simpa using h1
              clear hiff h1
              go_quiet_grown ((go_at_call 22; first | exact rank_gr2 HRz.out _ _ _ | exact rank_gr2 HRx.out _ _ _))
              go_wp2
              go_meet
              exact ⟨rfl, HG.out.trans ⟨_, _, rfl⟩⟩
            · have c1 : decide (rx < rz) = false := by simpa using h1
              by_cases h2 : rz = rx
              · have c2 : (rz == rx) = true := by simpa using h2
                by_cases h3 : z1 < x1
                · have e : bb = true := hiff.2 (.inr ⟨h2, h3⟩)
                  subst e
                  have c3 : decide (z1 < x1) = true := by simpa using h3
                  clear hiff h1 h2 h3
                  go_quiet_grown ((go_at_call 22; first | exact rank_gr2 HRz.out _ _ _ | exact rank_gr2 HRx.out _ _ _))
                  go_wp2
                  go_meet
                  exact ⟨rfl, HG.out.trans ⟨_, _, rfl⟩⟩
                · have e : bb = false := by cases bb; rfl; exact absurd (hiff.1 rfl) (by omega)
                  subst e
                  have c3 : decide (z1 < x1) = false := by simpa using h3
                  clear hiff h1 h2 h3
                  go_quiet_grown ((go_at_call 22; first | exact rank_gr2 HRz.out _ _ _ | exact rank_gr2 HRx.out _ _ _))
                  go_wp2
                  go_meet
                  exact ⟨rfl, HG.out.trans ⟨_, _, rfl⟩⟩
              · have c2 : (rz == rx) = false := by simpa using h2
                have e : bb = false := by cases bb; rfl; exact absurd (hiff.1 rfl) (by omega)
                subst e
                clear hiff h1 h2
                go_quiet_grown ((go_at_call 22; first | exact rank_gr2 HRz.out _ _ _ | exact rank_gr2 HRx.out _ _ _))
                go_wp2
                go_meet
                exact ⟨rfl, HG.out.trans ⟨_, _, rfl⟩⟩
          · obtain rfl : p = M.length := by omega
            have e : bb = false := by
              rw [← HBb.out, decide_eq_false_iff_not]
              rintro ⟨z, h1, _⟩
              have := (List.getElem?_eq_some_iff.1 h1).1
              omega
            subst e
            clear hx7 lx hMl
            go_quiet (fail)
            go_wp2
            go_meet
            exact ⟨rfl, HG.out.drewN _⟩
        case rest =>
          obtain ⟨rfl, hgz⟩ := hcut
          have HGz := Lib.hid hgz
          clear hgz
          cases bb
          · have hstop : ∀ z, M[p]? = some z → ¬ Ahead z (x1, x2, x3, x4) := fun z hz e => by
              have := HBb.out
              simp only [decide_eq_false_iff_not] at this
              exact this ⟨z, hz, e⟩
            have HS := Lib.hid hstop
            clear hstop
            have hx7 := (HGz.out.below.block bx lW).trans GX.out
            have lx := lt_of_heap hx7
            have d0 := cell_of_heap (i := 0) hx7 rfl
            have d1 := cell_of_heap (i := 1) hx7 rfl
            have d2 := cell_of_heap (i := 2) hx7 rfl
            have d3 := cell_of_heap (i := 3) hx7 rfl
            have hbz := HBL.out.trans (HGz.out.below.mono HBL.out.size)
            have hrz := (Fr.of_below hbz).row HRw.out (fun _ _ e => e)
            have HBz := Lib.hid (HB.out.trans (hbz.mono HB.out.size))
            have HRz := Lib.hid hrz
            have HFin := Lib.hid (show (setIn M p (x1, x2, x3, x4)).Perm (L.take (k + 1)) ∧ Order (setIn M p (x1, x2, x3, x4)) from ⟨(setIn_perm M p _).trans (by rw [List.take_add_one, HX.out]; exact ((HP.out.cons _).trans (List.perm_append_singleton _ _).symm)), setIn_order HO.out HA.out HS.out⟩)
            have K1 := Lib.hid (show (cellsK enc4 (M.take p)).length = p * 4 by rw [cellsK_length enc4_len, List.length_take, Nat.min_eq_left hpl])
            have K2 := Lib.hid (show (cellsK enc4 (M.drop p)).length = (M.length - p) * 4 by rw [cellsK_length enc4_len, List.length_drop])
            have b0 : (0 : Int) ≤ (p : Int) := by omega
            have b1 : (p : Int) ≤ (M.length : Int) := by omega
            have b2 : (p : Int) ≤ (ci : Int) := by omega
            clear hx7 hbz hrz
            by_cases hpM : p < M.length
            · obtain ⟨g', c', hsl, _, hg', _, _, _⟩ := row_own enc4_len HRz.out (List.getElem?_eq_getElem hpM)
              injection hsl with e1 _ e2
              subst e1 e2
              have hLi := row_lies enc4_len HRz.out
              have N1 := Lib.hid (show ∀ W', Below wc.heap.size wc W' → ∀ j u, (cellsK enc4 (M.take p))[j]? = some u → W'.cell? ((⟨g', 0, none⟩ : Addr).add j) = some u from fun W' hW' => lies_news (n := p) enc4_len hLi hW' 0)
              have N2 := Lib.hid (show ∀ W', Below wc.heap.size wc W' → ∀ j u, (cellsK enc4 (M.drop p))[j]? = some u → W'.cell? ((⟨g', p * 4, none⟩ : Addr).add j) = some u from fun W' hW' j u hu => by have := lies_news (n := M.length - p) enc4_len hLi hW' p j u (by rw [List.take_of_length_le (by rw [List.length_drop]; omega)]; exact hu); rwa [Nat.zero_add] at this)
              have hcp : ¬ ci = p := by omega
              clear hLi
              go_wp2
              go_region_held3 (fun w' => w'.cell? ⟨bx, 0, none⟩ = some (.int .i64 x1) ∧ w'.cell? ⟨bx, 1, none⟩ = some (.int .i64 x2) ∧ w'.cell? ⟨bx, 2, none⟩ = some (.int .i64 x3) ∧ w'.cell? ⟨bx, 3, none⟩ = some (.int .i64 x4))
                (first | go_keep | exact keep4 hgrowc (by assumption) (fun e => by have := (hownb.lt bx e.symm).1; omega) | exact keep4 hgrowb (by assumption) (fun e => by have := (howna.lt bx e.symm).1; omega) | exact keep4 hgrowa (by assumption) (by simp [Value.ownBlock]))
                ((first
                  | (refine step_append_at _ (by rfl) _ _ _ (by rfl) wc.heap.size 37 i0 _ 4 32 Try.underlying27 hi hz0 hz1 hz2 rfl (by omega) (.slice none 0 0) 0 [] (by rfl) (World.ownsRow_nil _ _ _ _) ⟨g', 0, none⟩ p ci (cellsK enc4 (M.take p)) (by rfl) K1.out (N1.out _ ((Below.refl wc.heap.size wc).drew)) cells_one4 (by unfold maxLen; omega) (by omega) ((Below.refl wc.heap.size wc).drew).size ?_; intro va wa howna hgrowa hnila hloca; have hba := below_grow ((Below.refl wc.heap.size wc).drew) hgrowa (fun k hk => by simp [Value.ownBlock] at hk))
                  | (refine step_append_at _ (by rfl) _ _ _ (by rfl) wc.heap.size 37 i0 _ 4 32 Try.underlying27 hi hz0 hz1 hz2 rfl (by omega) (.slice none 0 0) 0 [] (by rfl) (World.ownsRow_nil _ _ _ _) ⟨g', 0, none⟩ p ci (cellsK enc4 (M.take p)) (by rfl) K1.out (N1.out _ (((Below.refl wc.heap.size wc).drew).alloc (Nat.le_refl _) _)) cells_one4 (by unfold maxLen; omega) (by omega) (((Below.refl wc.heap.size wc).drew).alloc (Nat.le_refl _) _).size ?_; intro va wa howna hgrowa hnila hloca; have hba := below_grow (((Below.refl wc.heap.size wc).drew).alloc (Nat.le_refl _) _) hgrowa (fun k hk => by simp [Value.ownBlock] at hk))
                  | (refine step_append_at _ (by rfl) _ _ _ (by rfl) wc.heap.size 37 i0 _ 4 32 Try.underlying27 hi hz0 hz1 hz2 rfl (by omega) (.slice none 0 0) 0 [] (by rfl) (World.ownsRow_nil _ _ _ _) ⟨g', 0, none⟩ p ci (cellsK enc4 (M.take p)) (by rfl) K1.out (N1.out _ (((Below.refl wc.heap.size wc).alloc (Nat.le_refl _) _).drew)) cells_one4 (by unfold maxLen; omega) (by omega) (((Below.refl wc.heap.size wc).alloc (Nat.le_refl _) _).drew).size ?_; intro va wa howna hgrowa hnila hloca; have hba := below_grow (((Below.refl wc.heap.size wc).alloc (Nat.le_refl _) _).drew) hgrowa (fun k hk => by simp [Value.ownBlock] at hk))
                  | (refine step_append_at _ (by rfl) _ _ _ (by rfl) wc.heap.size 37 i0 _ 4 32 Try.underlying27 hi hz0 hz1 hz2 rfl (by omega) va (0 + p) ([] ++ cellsK enc4 (M.take p)) (by rfl) (howna.alloc _) ⟨wa.heap.size, 0, none⟩ 1 1 [.int .i64 x1, .int .i64 x2, .int .i64 x3, .int .i64 x4] (by rfl) (by rfl) (World.news_of_block (heap_alloc_new wa _)) (by simp [Value.oneCell']) (by unfold maxLen; omega) (by omega) (hba.alloc hba.size _).size ?_; intro vb wb hownb hgrowb hnilb hlocb; have hbb := below_grow (hba.alloc hba.size _) hgrowb (fun k hk => (howna.lt k hk).1))
                  | (refine step_append_at _ (by rfl) _ _ _ (by rfl) wc.heap.size 37 i0 _ 4 32 Try.underlying27 hi hz0 hz1 hz2 rfl (by omega) va (0 + p) ([] ++ cellsK enc4 (M.take p)) (by rfl) howna ⟨wc.heap.size, 0, none⟩ 1 1 [.int .i64 x1, .int .i64 x2, .int .i64 x3, .int .i64 x4] (by rfl) (by rfl) (World.news_of_block ((hgrowa.block _ (by simp) (by simp [Value.ownBlock])).trans (heap_alloc_new wc _))) (by simp [Value.oneCell']) (by unfold maxLen; omega) (by omega) hba.size ?_; intro vb wb hownb hgrowb hnilb hlocb; have hbb := below_grow hba hgrowb (fun k hk => (howna.lt k hk).1))
                  | (refine step_append_at _ (by rfl) _ _ _ (by rfl) wc.heap.size 37 i0 _ 4 32 Try.underlying27 hi hz0 hz1 hz2 rfl (by omega) vb (0 + p + 1) (([] ++ cellsK enc4 (M.take p)) ++ [.int .i64 x1, .int .i64 x2, .int .i64 x3, .int .i64 x4]) (by rfl) hownb ⟨g', p * 4, none⟩ (M.length - p) (ci - p) (cellsK enc4 (M.drop p)) (by rfl) K2.out (N2.out _ hbb) cells_one4 (by unfold maxLen; omega) (by omega) hbb.size ?_; intro vc wd hownc hgrowc hnilc hlocc; have hbc := below_grow hbb hgrowc (fun k hk => (hownb.lt k hk).1))))
              all_goals
                have hrow : wd.ownsRow wc.heap.size 37 4 vc (setIn M p (x1, x2, x3, x4)).length (cellsK enc4 (setIn M p (x1, x2, x3, x4))) := by
                  rw [setIn_cells, setIn_len M hpl]
                  exact hownc
                have HRow := Lib.hid (row_base hrow HBz.out.size)
                have HBf := Lib.hid (HBz.out.trans (hbc.mono HBz.out.size))
                clear hownc hgrowc hnilc hlocc hownb hgrowb hnilb hlocb howna hgrowa hnila hloca hba hbb hbc hrow
                go_wp2
                go_roundw
                case rel => exact ⟨k + 1, setIn M p (x1, x2, x3, x4), vc, by omega, by go_num, rfl, HFin.out.1, HFin.out.2, fun e => by simp [setIn] at e, HRow.out, HBf.out⟩
                case measure => simp [intOf]; omega
            · obtain rfl : p = M.length := by omega
              have N3 := Lib.hid (show cellsK enc4 (M.drop M.length) = [] by rw [List.drop_of_length_le (Nat.le_refl _)]; rfl)
              by_cases hM0 : M.length = 0
              · have hMe : M = [] := List.length_eq_zero_iff.1 hM0
                have hsl := HN.out hMe
                injection hsl with e1 _ e2
                subst e1 e2
                subst hMe
                clear hM0 hpM b0 b1 b2 hci hcim hM8
                simp only [List.length_nil, Int.natCast_zero, Int.ofNat_zero]
                go_wp2
                go_region_held3 (fun w' => w'.cell? ⟨bx, 0, none⟩ = some (.int .i64 x1) ∧ w'.cell? ⟨bx, 1, none⟩ = some (.int .i64 x2) ∧ w'.cell? ⟨bx, 2, none⟩ = some (.int .i64 x3) ∧ w'.cell? ⟨bx, 3, none⟩ = some (.int .i64 x4))
                  (first | go_keep | exact keep4 hgrowb (by assumption) (by simp [Value.ownBlock]))
                  ((first
                    | (refine step_append_none _ (by rfl) _ _ _ (by rfl) wc.heap.size 37 i0 4 Try.underlying27 hi vb (0 + 1) ([] ++ [.int .i64 x1, .int .i64 x2, .int .i64 x3, .int .i64 x4]) (by rfl) hownb (by rfl) hz1 ?_)
                    | (refine step_append_at _ (by rfl) _ _ _ (by rfl) wc.heap.size 37 i0 _ 4 32 Try.underlying27 hi hz0 hz1 hz2 rfl (by omega) (.slice none 0 0) 0 [] (by rfl) (World.ownsRow_nil _ _ _ _) ⟨wc.heap.size, 0, none⟩ 1 1 [.int .i64 x1, .int .i64 x2, .int .i64 x3, .int .i64 x4] (by rfl) (by rfl) (World.news_of_block (heap_alloc_new wc _)) (by simp [Value.oneCell']) (by unfold maxLen; omega) (by omega) (by simp) ?_; intro vb wd hownb hgrowb hnilb hlocb)
                    | (refine step_append_none _ (by rfl) _ _ _ (by rfl) wc.heap.size 37 i0 4 Try.underlying27 hi (.slice none 0 0) 0 [] (by rfl) (World.ownsRow_nil _ _ _ _) (by rfl) hz1 ?_)))
                all_goals
                  have hbb : Below wc.heap.size wc wd := below_grow (((Below.refl wc.heap.size wc).alloc (Nat.le_refl _) _).drew) hgrowb (by simp [Value.ownBlock])
                  have hrow : wd.ownsRow wc.heap.size 37 4 vb (setIn [] ([] : List It).length (x1, x2, x3, x4)).length (cellsK enc4 (setIn [] ([] : List It).length (x1, x2, x3, x4))) := hownb
                  have HRow := Lib.hid (row_base hrow HBz.out.size)
                  have HBf := Lib.hid (HBz.out.trans (hbb.mono HBz.out.size))
                  clear hownb hgrowb hnilb hlocb hbb hrow
                  go_wp2
                  go_roundw
                  case rel => exact ⟨k + 1, setIn [] ([] : List It).length (x1, x2, x3, x4), vb, by omega, by go_num, rfl, HFin.out.1, HFin.out.2, fun e => by simp [setIn] at e, HRow.out, HBf.out⟩
                  case measure => simp [intOf]; omega
              · obtain ⟨g', c', hsl, _, hg', _, _, _⟩ := row_own enc4_len HRz.out (List.getElem?_eq_getElem (show 0 < M.length by omega))
                injection hsl with e1 _ e2
                subst e1 e2
                have hLi := row_lies enc4_len HRz.out
                have N1 := Lib.hid (show ∀ W', Below wc.heap.size wc W' → ∀ j u, (cellsK enc4 (M.take M.length))[j]? = some u → W'.cell? ((⟨g', 0, none⟩ : Addr).add j) = some u from fun W' hW' => lies_news (n := M.length) enc4_len hLi hW' 0)
                clear hLi
                by_cases hcp : ci = M.length
                · subst hcp
                  go_wp2
                  go_region_held3 (fun w' => w'.cell? ⟨bx, 0, none⟩ = some (.int .i64 x1) ∧ w'.cell? ⟨bx, 1, none⟩ = some (.int .i64 x2) ∧ w'.cell? ⟨bx, 2, none⟩ = some (.int .i64 x3) ∧ w'.cell? ⟨bx, 3, none⟩ = some (.int .i64 x4))
                    (first | go_keep | exact keep4 hgrowc (by assumption) (fun e => by have := (hownb.lt bx e.symm).1; omega) | exact keep4 hgrowb (by assumption) (fun e => by have := (howna.lt bx e.symm).1; omega) | exact keep4 hgrowa (by assumption) (by simp [Value.ownBlock]))
                    ((first
                      | (refine step_append_at _ (by rfl) _ _ _ (by rfl) wc.heap.size 37 i0 _ 4 32 Try.underlying27 hi hz0 hz1 hz2 rfl (by omega) (.slice none 0 0) 0 [] (by rfl) (World.ownsRow_nil _ _ _ _) ⟨g', 0, none⟩ M.length M.length (cellsK enc4 (M.take M.length)) (by rfl) K1.out (N1.out _ ((Below.refl wc.heap.size wc).drew)) cells_one4 (by unfold maxLen; omega) (by omega) ((Below.refl wc.heap.size wc).drew).size ?_; intro va wa howna hgrowa hnila hloca; have hba := below_grow ((Below.refl wc.heap.size wc).drew) hgrowa (fun k hk => by simp [Value.ownBlock] at hk))
                      | (refine step_append_at _ (by rfl) _ _ _ (by rfl) wc.heap.size 37 i0 _ 4 32 Try.underlying27 hi hz0 hz1 hz2 rfl (by omega) (.slice none 0 0) 0 [] (by rfl) (World.ownsRow_nil _ _ _ _) ⟨g', 0, none⟩ M.length M.length (cellsK enc4 (M.take M.length)) (by rfl) K1.out (N1.out _ (((Below.refl wc.heap.size wc).drew).alloc (Nat.le_refl _) _)) cells_one4 (by unfold maxLen; omega) (by omega) (((Below.refl wc.heap.size wc).drew).alloc (Nat.le_refl _) _).size ?_; intro va wa howna hgrowa hnila hloca; have hba := below_grow (((Below.refl wc.heap.size wc).drew).alloc (Nat.le_refl _) _) hgrowa (fun k hk => by simp [Value.ownBlock] at hk))
                      | (refine step_append_at _ (by rfl) _ _ _ (by rfl) wc.heap.size 37 i0 _ 4 32 Try.underlying27 hi hz0 hz1 hz2 rfl (by omega) (.slice none 0 0) 0 [] (by rfl) (World.ownsRow_nil _ _ _ _) ⟨g', 0, none⟩ M.length M.length (cellsK enc4 (M.take M.length)) (by rfl) K1.out (N1.out _ (((Below.refl wc.heap.size wc).alloc (Nat.le_refl _) _).drew)) cells_one4 (by unfold maxLen; omega) (by omega) (((Below.refl wc.heap.size wc).alloc (Nat.le_refl _) _).drew).size ?_; intro va wa howna hgrowa hnila hloca; have hba := below_grow (((Below.refl wc.heap.size wc).alloc (Nat.le_refl _) _).drew) hgrowa (fun k hk => by simp [Value.ownBlock] at hk))
                      | (refine step_append_at _ (by rfl) _ _ _ (by rfl) wc.heap.size 37 i0 _ 4 32 Try.underlying27 hi hz0 hz1 hz2 rfl (by omega) va (0 + M.length) ([] ++ cellsK enc4 (M.take M.length)) (by rfl) (howna.alloc _) ⟨wa.heap.size, 0, none⟩ 1 1 [.int .i64 x1, .int .i64 x2, .int .i64 x3, .int .i64 x4] (by rfl) (by rfl) (World.news_of_block (heap_alloc_new wa _)) (by simp [Value.oneCell']) (by unfold maxLen; omega) (by omega) (hba.alloc hba.size _).size ?_; intro vb wb hownb hgrowb hnilb hlocb; have hbb := below_grow (hba.alloc hba.size _) hgrowb (fun k hk => (howna.lt k hk).1))
                      | (refine step_append_at _ (by rfl) _ _ _ (by rfl) wc.heap.size 37 i0 _ 4 32 Try.underlying27 hi hz0 hz1 hz2 rfl (by omega) va (0 + M.length) ([] ++ cellsK enc4 (M.take M.length)) (by rfl) howna ⟨wc.heap.size, 0, none⟩ 1 1 [.int .i64 x1, .int .i64 x2, .int .i64 x3, .int .i64 x4] (by rfl) (by rfl) (World.news_of_block ((hgrowa.block _ (by simp) (by simp [Value.ownBlock])).trans (heap_alloc_new wc _))) (by simp [Value.oneCell']) (by unfold maxLen; omega) (by omega) hba.size ?_; intro vb wb hownb hgrowb hnilb hlocb; have hbb := below_grow hba hgrowb (fun k hk => (howna.lt k hk).1))
                      | (refine step_append_at _ (by rfl) _ _ _ (by rfl) wc.heap.size 37 i0 _ 4 32 Try.underlying27 hi hz0 hz1 hz2 rfl (by omega) vb (0 + M.length + 1) (([] ++ cellsK enc4 (M.take M.length)) ++ [.int .i64 x1, .int .i64 x2, .int .i64 x3, .int .i64 x4]) (by rfl) hownb ⟨g', 0, none⟩ 0 0 [] (by rfl) rfl (fun i u hu => absurd hu (by simp)) (fun u hu => absurd hu (by simp)) (by unfold maxLen; omega) (by omega) hbb.size ?_; intro vc wd hownc hgrowc hnilc hlocc; have hbc := below_grow hbb hgrowc (fun k hk => (hownb.lt k hk).1))))
                  all_goals
                    have hrow : wd.ownsRow wc.heap.size 37 4 vc (setIn M M.length (x1, x2, x3, x4)).length (cellsK enc4 (setIn M M.length (x1, x2, x3, x4))) := by
                      rw [setIn_cells, setIn_len M hpl]
                      rw [N3.out, show M.length - M.length = 0 by omega]
                      exact hownc
                    have HRow := Lib.hid (row_base hrow HBz.out.size)
                    have HBf := Lib.hid (HBz.out.trans (hbc.mono HBz.out.size))
                    clear hownc hgrowc hnilc hlocc hownb hgrowb hnilb hlocb howna hgrowa hnila hloca hba hbb hbc hrow
                    go_wp2
                    go_roundw
                    case rel => exact ⟨k + 1, setIn M M.length (x1, x2, x3, x4), vc, by omega, by go_num, rfl, HFin.out.1, HFin.out.2, fun e => by simp [setIn] at e, HRow.out, HBf.out⟩
                    case measure => simp [intOf]; omega
                · go_wp2
                  go_region_held3 (fun w' => w'.cell? ⟨bx, 0, none⟩ = some (.int .i64 x1) ∧ w'.cell? ⟨bx, 1, none⟩ = some (.int .i64 x2) ∧ w'.cell? ⟨bx, 2, none⟩ = some (.int .i64 x3) ∧ w'.cell? ⟨bx, 3, none⟩ = some (.int .i64 x4))
                    (first | go_keep | exact keep4 hgrowc (by assumption) (fun e => by have := (hownb.lt bx e.symm).1; omega) | exact keep4 hgrowb (by assumption) (fun e => by have := (howna.lt bx e.symm).1; omega) | exact keep4 hgrowa (by assumption) (by simp [Value.ownBlock]))
                    ((first
                      | (refine step_append_at _ (by rfl) _ _ _ (by rfl) wc.heap.size 37 i0 _ 4 32 Try.underlying27 hi hz0 hz1 hz2 rfl (by omega) (.slice none 0 0) 0 [] (by rfl) (World.ownsRow_nil _ _ _ _) ⟨g', 0, none⟩ M.length ci (cellsK enc4 (M.take M.length)) (by rfl) K1.out (N1.out _ ((Below.refl wc.heap.size wc).drew)) cells_one4 (by unfold maxLen; omega) (by omega) ((Below.refl wc.heap.size wc).drew).size ?_; intro va wa howna hgrowa hnila hloca; have hba := below_grow ((Below.refl wc.heap.size wc).drew) hgrowa (fun k hk => by simp [Value.ownBlock] at hk))
                      | (refine step_append_at _ (by rfl) _ _ _ (by rfl) wc.heap.size 37 i0 _ 4 32 Try.underlying27 hi hz0 hz1 hz2 rfl (by omega) (.slice none 0 0) 0 [] (by rfl) (World.ownsRow_nil _ _ _ _) ⟨g', 0, none⟩ M.length ci (cellsK enc4 (M.take M.length)) (by rfl) K1.out (N1.out _ (((Below.refl wc.heap.size wc).drew).alloc (Nat.le_refl _) _)) cells_one4 (by unfold maxLen; omega) (by omega) (((Below.refl wc.heap.size wc).drew).alloc (Nat.le_refl _) _).size ?_; intro va wa howna hgrowa hnila hloca; have hba := below_grow (((Below.refl wc.heap.size wc).drew).alloc (Nat.le_refl _) _) hgrowa (fun k hk => by simp [Value.ownBlock] at hk))
                      | (refine step_append_at _ (by rfl) _ _ _ (by rfl) wc.heap.size 37 i0 _ 4 32 Try.underlying27 hi hz0 hz1 hz2 rfl (by omega) (.slice none 0 0) 0 [] (by rfl) (World.ownsRow_nil _ _ _ _) ⟨g', 0, none⟩ M.length ci (cellsK enc4 (M.take M.length)) (by rfl) K1.out (N1.out _ (((Below.refl wc.heap.size wc).alloc (Nat.le_refl _) _).drew)) cells_one4 (by unfold maxLen; omega) (by omega) (((Below.refl wc.heap.size wc).alloc (Nat.le_refl _) _).drew).size ?_; intro va wa howna hgrowa hnila hloca; have hba := below_grow (((Below.refl wc.heap.size wc).alloc (Nat.le_refl _) _).drew) hgrowa (fun k hk => by simp [Value.ownBlock] at hk))
                      | (refine step_append_at _ (by rfl) _ _ _ (by rfl) wc.heap.size 37 i0 _ 4 32 Try.underlying27 hi hz0 hz1 hz2 rfl (by omega) va (0 + M.length) ([] ++ cellsK enc4 (M.take M.length)) (by rfl) (howna.alloc _) ⟨wa.heap.size, 0, none⟩ 1 1 [.int .i64 x1, .int .i64 x2, .int .i64 x3, .int .i64 x4] (by rfl) (by rfl) (World.news_of_block (heap_alloc_new wa _)) (by simp [Value.oneCell']) (by unfold maxLen; omega) (by omega) (hba.alloc hba.size _).size ?_; intro vb wb hownb hgrowb hnilb hlocb; have hbb := below_grow (hba.alloc hba.size _) hgrowb (fun k hk => (howna.lt k hk).1))
                      | (refine step_append_at _ (by rfl) _ _ _ (by rfl) wc.heap.size 37 i0 _ 4 32 Try.underlying27 hi hz0 hz1 hz2 rfl (by omega) va (0 + M.length) ([] ++ cellsK enc4 (M.take M.length)) (by rfl) howna ⟨wc.heap.size, 0, none⟩ 1 1 [.int .i64 x1, .int .i64 x2, .int .i64 x3, .int .i64 x4] (by rfl) (by rfl) (World.news_of_block ((hgrowa.block _ (by simp) (by simp [Value.ownBlock])).trans (heap_alloc_new wc _))) (by simp [Value.oneCell']) (by unfold maxLen; omega) (by omega) hba.size ?_; intro vb wb hownb hgrowb hnilb hlocb; have hbb := below_grow hba hgrowb (fun k hk => (howna.lt k hk).1))
                      | (refine step_append_at _ (by rfl) _ _ _ (by rfl) wc.heap.size 37 i0 _ 4 32 Try.underlying27 hi hz0 hz1 hz2 rfl (by omega) vb (0 + M.length + 1) (([] ++ cellsK enc4 (M.take M.length)) ++ [.int .i64 x1, .int .i64 x2, .int .i64 x3, .int .i64 x4]) (by rfl) hownb ⟨g', M.length * 4, none⟩ 0 (ci - M.length) [] (by rfl) rfl (fun i u hu => absurd hu (by simp)) (fun u hu => absurd hu (by simp)) (by unfold maxLen; omega) (by omega) hbb.size ?_; intro vc wd hownc hgrowc hnilc hlocc; have hbc := below_grow hbb hgrowc (fun k hk => (hownb.lt k hk).1))))
                  all_goals
                    have hrow : wd.ownsRow wc.heap.size 37 4 vc (setIn M M.length (x1, x2, x3, x4)).length (cellsK enc4 (setIn M M.length (x1, x2, x3, x4))) := by
                      rw [setIn_cells, setIn_len M hpl]
                      rw [N3.out, show M.length - M.length = 0 by omega]
                      exact hownc
                    have HRow := Lib.hid (row_base hrow HBz.out.size)
                    have HBf := Lib.hid (HBz.out.trans (hbc.mono HBz.out.size))
                    clear hownc hgrowc hnilc hlocc hownb hgrowb hnilb hlocb howna hgrowa hnila hloca hba hbb hbc hrow
                    go_wp2
                    go_roundw
                    case rel => exact ⟨k + 1, setIn M M.length (x1, x2, x3, x4), vc, by omega, by go_num, rfl, HFin.out.1, HFin.out.2, fun e => by simp [setIn] at e, HRow.out, HBf.out⟩
                    case measure => simp [intOf]; omega
          · obtain ⟨z, hz, he⟩ := of_decide_eq_true HBb.out
            have hlt2 : p < M.length := (List.getElem?_eq_some_iff.1 hz).1
            have HA2 := Lib.hid (take_ahead HA.out hz he)
            clear hz he
            go_wp2
            go_roundw
            case rel => exact ⟨p + 1, by omega, by go_num, HA2.out, HGz.out⟩
            case measure => simp [intOf]; omega
    · obtain rfl : k = L.length := by omega
      go_wp2
      go_ret
      refine ⟨_, M, rfl, ?_, HO.out, HRw.out, HB.out⟩
      have := HP.out
      rwa [List.take_length] at this
end Go.Proofs.Ytcallnhkojgnmaa.Q
