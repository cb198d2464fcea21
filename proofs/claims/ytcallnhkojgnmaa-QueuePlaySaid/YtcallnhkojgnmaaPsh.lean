/- Push: one more in the queue. Conditions: those that each theorem names. -/
import Derived.Deep.CutBlock
import Derived.Deep.AppendLies
import Derived.Test.YtcallnhkojgnmaaFnd
namespace Go.Proofs.Ytcallnhkojgnmaa.Q
open Go.RowKit Go.Sort Go.Shelf
open Go.Proofs.Ytcallnhkojgnmaa.Ma
set_option linter.unusedVariables false
set_option linter.unusedSimpArgs false
theorem info31 : (Try.prog.info? 31).map (fun i => (i.zero, i.size, i.bytes)) = some (some (.agg #[.int .i64 0, .int .i64 0, .int .i64 0, .int .i64 0]), 4, 32) := by kernel_rfl
abbrev may (x : It) : Prop := 0 ≤ x.2.1 ∧ x.2.1 ≤ 7 ∧ 0 ≤ x.2.2.2 ∧ x.2.2.2 ≤ 1073741824
/-- What Push answers, and leaves. -/
def pushF (L : List It) (x : It) : Int × List It :=
  if ¬ may x ∨ hasQ L x.1 = true then (2, L) else if L.length = 8 then (230, L) else (0, L ++ [x])
section
variable {P : Program} (w : World)
/-- append at a step of a region that draws its order: nothing, too, may be appended. -/
theorem step_append_at {ops : Array Oper} {o : Oper} {a : Act} {K : Act → World → Prop} {Q : Exit → Act → World → Prop} {E : Prop} (hgd : o.guard = none) (s x : Operand) (t : TypeId)
    (ho : o.op = .call { callee := .builtin .append, args := #[s, x], argTypes := #[t, t] })
    (base : Nat) (e : TypeId) (i : TypeInfo) (z : Value) (size bytes : Nat) (ht : P.underlying t = some (.slice e)) (hi : P.info? e = some i) (hz : i.zero = some z)
    (hsize : i.size = size) (hby : i.bytes = bytes) (hzs : z.cells.size = size) (hsz : 0 < size)
    (v : Value) (n : Nat) (xs : List Value) (hs : a.eval s = v) (hown : w.ownsRow base e size v n xs)
    (ad : Addr) (m c : Nat) (news : List Value) (hx : a.eval x = .slice (some ad) m c) (hl : news.length = m * size) (hnews : ∀ j u, news[j]? = some u → w.cell? (ad.add j) = some u) (h1 : ∀ u ∈ news, u.oneCell' = true)
    (h63 : n + m ≤ maxLen) (hbytes : (n + m) * bytes ≤ 140737488355328) (hbase : base ≤ w.heap.size)
    (h : ∀ v' w', w'.ownsRow base e size v' (n + m) (xs ++ news) → w.grownBy w' v.ownBlock → (v' = .slice none 0 0 ↔ v = .slice none 0 0 ∧ m = 0) → (v'.ownBlock = v.ownBlock ∨ v'.ownBlock = some w.heap.size) → K (a.put o.dst v') w') :
    if Region.wanted o (yielded ops a.tmps) = true then Oper.wp P o a w K Q else E := by
  have hw : Region.wanted o (yielded ops a.tmps) = true := by simp [Region.wanted, hgd]
  rw [if_pos hw]
  obtain ⟨v', w', hr, h2, h3, h4, h5⟩ := run_append_own_at (P := P) w base t o.type e i z size bytes ht hi hz hsize hby hzs hsz v n xs hown ad m c news hl hnews h1 h63 hbytes hbase
  unfold Oper.wp execOp
  simp only [ho, resolve, invoke, builtin, Sem.run_bind, Sem.run_pure, Result.andThen_ok, List.map_toArray, List.map_cons, List.map_nil, hs, hx, hr]
  exact h v' w' h2 h3 h4 h5
end
theorem boxed4 (w : World) (x1 x2 x3 x4 : Int) (T : TypeId) : ∃ W : World, w.alloc (.cells #[.int .i64 x1, .int .i64 x2, .int .i64 x3, .int .i64 x4] T) = W ∧ W.heap[w.heap.size]? = some (.cells #[.int .i64 x1, .int .i64 x2, .int .i64 x3, .int .i64 x4] T (0, 0)) ∧ Below w.heap.size w W ∧ W.heap.size = w.heap.size + 1 :=
  ⟨_, rfl, heap_alloc_new w _, (Below.refl _ _).alloc (Nat.le_refl _) _, by simp⟩
set_option maxHeartbeats 1000000 in
theorem push_bad (B b : Nat) (L : List It) (v : Value) (x1 x2 x3 x4 : Int) (w : World) (h : QAt B w b L v) (hlen : L.length ≤ 8) (hbad : ¬ may (x1, x2, x3, x4)) :
    Calls Try.prog 11 #[.pointer (some ⟨b, 0, none⟩), .agg #[.int .i64 x1, .int .i64 x2, .int .i64 x3, .int .i64 x4]] w fun e w' => e = .returned (.int .i64 2) ∧ Below w.heap.size w w' := by
  have h1 := h.c0
  have hb := lt_of_heap h.1
  have hor : x2 < 0 ∨ (0 ≤ x2 ∧ 7 < x2) ∨ (0 ≤ x2 ∧ x2 ≤ 7 ∧ x4 < 0) ∨ (0 ≤ x2 ∧ x2 ≤ 7 ∧ 0 ≤ x4 ∧ 1073741824 < x4) := by
    unfold may at hbad
    dsimp only at hbad
    omega
  have hbl : Below w.heap.size w (w.alloc (.cells #[.int .i64 x1, .int .i64 x2, .int .i64 x3, .int .i64 x4] 31)) := (Below.refl _ _).alloc (Nat.le_refl _) _
  have q0 := (hbl.cell (p := ⟨b, 0, none⟩) hb).trans h1
  have HB := Lib.hid hbl
  clear h hbad hbl
  rcases hor with h2 | ⟨h2, h3⟩ | ⟨h2, h3, h4⟩ | ⟨h2, h3, h4, h5⟩
  all_goals
    go_enter Try.func11, Try.ntmps11
    go_wp2_with (go_at_call 23; refine (none_at b _ q0).mono ?_; rintro e w' ⟨rfl, rfl⟩)
    go_ret
    exact ⟨rfl, HB.out⟩
set_option maxHeartbeats 1000000 in
theorem push_there (B b : Nat) (L : List It) (v : Value) (x1 x2 x3 x4 : Int) (w : World) (h : QAt B w b L v) (hlen : L.length ≤ 8) (hm : may (x1, x2, x3, x4)) (hh : hasQ L x1 = true ∨ (hasQ L x1 = false ∧ L.length = 8)) :
    Calls Try.prog 11 #[.pointer (some ⟨b, 0, none⟩), .agg #[.int .i64 x1, .int .i64 x2, .int .i64 x3, .int .i64 x4]] w fun e w' => e = .returned (.int .i64 (if hasQ L x1 = true then 2 else 230)) ∧ Below w.heap.size w w' := by
  obtain ⟨m1, m2, m3, m4⟩ := hm
  dsimp only at m1 m2 m3 m4
  have h1 := h.c0
  have hb := lt_of_heap h.1
  obtain ⟨W, hW, g1, hbl, hsz⟩ := boxed4 w x1 x2 x3 x4 31
  have hQ := h.below hbl
  have q0 := hQ.c0
  have q1 := hQ.c1
  have a0 := cell_of_heap (i := 0) g1 rfl
  have a1 := cell_of_heap (i := 1) g1 rfl
  have a3 := cell_of_heap (i := 3) g1 rfl
  have hf := find_at B b L v x1 W hQ (by omega)
  obtain ⟨A, c, rfl, _, _⟩ := row_open enc4_len h.2
  have HB := Lib.hid hbl
  rcases hh with hh | ⟨hh, h8⟩
  · obtain ⟨j, p, hj, _, _, hp⟩ := plc_in hh
    rw [if_pos hh]
    rw [hp] at hf
    have HF := Lib.hid hf
    have hpos : (0 : Int) ≤ (j : Int) := by omega
    clear h hh hf hj hp hQ g1
    go_enter Try.func11, Try.ntmps11
    go_wp2_with (first | (go_at_call 23; refine (none_at b _ q0).mono ?_; rintro e w' ⟨rfl, rfl⟩) | (go_at_call 24; refine HF.out.mono ?_; rintro e w2 ⟨rfl, hb2⟩))
    go_ret
    exact ⟨rfl, HB.out.trans (hb2.mono (by omega))⟩
  · rw [hh]
    rw [plc_out hh] at hf
    have HF := Lib.hid hf
    have HQ := Lib.hid hQ
    clear h hh hf hQ g1
    simp only [Bool.false_eq_true, if_false]
    go_enter Try.func11, Try.ntmps11
    go_wp2_with (first | (go_at_call 23; refine (none_at b _ q0).mono ?_; rintro e w' ⟨rfl, rfl⟩) | (go_at_call 24; refine HF.out.mono ?_; rintro e w2 ⟨rfl, hb2⟩; have q2 := (HQ.out.below hb2).c1; rw [h8] at q2))
    go_ret
    exact ⟨rfl, HB.out.trans (hb2.mono (by omega))⟩
theorem QAt.store {B b : Nat} {w w1 : World} {L L' : List It} {v v' : Value} {S : Nat → Prop} (h : QAt B w b L v) (hf : Fr S w w1) (hS : ¬ S b) (hrow : w1.ownsRow B 31 4 v' L'.length (cellsK enc4 L')) (hne : ∀ g, v'.ownBlock = some g → g ≠ b) :
    QAt B (w1.setCell ⟨b, 1, none⟩ v') b L' v' ∧ Fr (fun k => S k ∨ k = b) w (w1.setCell ⟨b, 1, none⟩ v') := by
  have h1 := hf.keep h.1 hS
  exact ⟨⟨by rw [heap_setCell_at h1]; rfl, (Fr.setCell w1 ⟨b, 1, none⟩ v').row hrow (fun g hg e => hne g hg e)⟩, (hf.mono (fun _ h => .inl h)).trans ((Fr.setCell w1 ⟨b, 1, none⟩ v').mono (fun _ h => .inr h))⟩
set_option maxHeartbeats 2000000 in
theorem push_go (B b : Nat) (L : List It) (v : Value) (x1 x2 x3 x4 : Int) (w : World) (h : QAt B w b L v) (hB : B ≤ w.heap.size) (hlen : L.length < 8) (hm : may (x1, x2, x3, x4)) (hh : hasQ L x1 = false) :
    Calls Try.prog 11 #[.pointer (some ⟨b, 0, none⟩), .agg #[.int .i64 x1, .int .i64 x2, .int .i64 x3, .int .i64 x4]] w fun e w' => e = .returned (.int .i64 0) ∧ ∃ v', QAt B w' b (L ++ [(x1, x2, x3, x4)]) v' ∧ Fr (fun k => k = b ∨ v.ownBlock = some k) w w' ∧ ∀ g, v'.ownBlock = some g → v.ownBlock = some g ∨ w.heap.size ≤ g := by
  obtain ⟨m1, m2, m3, m4⟩ := hm
  dsimp only at m1 m2 m3 m4
  have h1 := h.c0
  have hb := lt_of_heap h.1
  obtain ⟨W, hW, g1, hbl, hsz⟩ := boxed4 w x1 x2 x3 x4 31
  have hQ := h.below hbl
  have q0 := hQ.c0
  have hf := find_at B b L v x1 W hQ (by omega)
  rw [plc_out hh] at hf
  obtain ⟨A, c, rfl, hlc, hcm⟩ := row_open enc4_len h.2
  have HB := Lib.hid hbl
  have HF := Lib.hid hf
  have HQ := Lib.hid hQ
  have HG := Lib.hid g1
  have h8 : ¬ (L.length : Int) = 8 := by omega
  have a0 := cell_of_heap (i := 0) g1 rfl
  have a1 := cell_of_heap (i := 1) g1 rfl
  have a3 := cell_of_heap (i := 3) g1 rfl
  clear h hh hf hQ g1
  obtain ⟨i0, hi, hz0, hz1, hz2⟩ := info_parts info31
  go_enter Try.func11, Try.ntmps11
  go_wp2_with (first | (go_at_call 23; refine (none_at b _ q0).mono ?_; rintro e w' ⟨rfl, rfl⟩) | (go_at_call 24; refine HF.out.mono ?_; rintro e w2 ⟨rfl, hb2⟩; have q2 := (HQ.out.below hb2).c1))
  obtain ⟨bx, hbx⟩ : ∃ k, w.heap.size = k := ⟨_, rfl⟩
  have G2 := Lib.hid ((Fr.of_below hb2).keep HG.out (fun e => e))
  rw [hbx] at G2 ⊢
  have d0 := cell_of_heap (i := 0) G2.out rfl
  have d1 := cell_of_heap (i := 1) G2.out rfl
  have d2 := cell_of_heap (i := 2) G2.out rfl
  have d3 := cell_of_heap (i := 3) G2.out rfl
  have Q2 := Lib.hid (HQ.out.below hb2)
  have l2 : bx < w2.heap.size := by have := hb2.size; omega
  have lb2 := lt_of_heap Q2.out.1
  have sb := hb2.size
  have HB2 := Lib.hid (HB.out.trans (hb2.mono (by omega)))
  clear hb2 a0 a1 a3 h1 q0
  have hBs : B ≤ ((w2.alloc (.cells #[.int .i64 x1, .int .i64 x2, .int .i64 x3, .int .i64 x4] 31)).drew).heap.size := by
    show B ≤ (w2.alloc (.cells #[.int .i64 x1, .int .i64 x2, .int .i64 x3, .int .i64 x4] 31)).heap.size
    simp; omega
  have hb3 : Below w2.heap.size w2 ((w2.alloc (.cells #[.int .i64 x1, .int .i64 x2, .int .i64 x3, .int .i64 x4] 31)).drew) := ((Below.refl _ _).alloc (Nat.le_refl _) _).drew
  have hsz3 : ((w2.alloc (.cells #[.int .i64 x1, .int .i64 x2, .int .i64 x3, .int .i64 x4] 31)).drew).heap.size = w2.heap.size + 1 := by
    show (w2.alloc (.cells #[.int .i64 x1, .int .i64 x2, .int .i64 x3, .int .i64 x4] 31)).heap.size = _
    simp
  have HS3 := Lib.hid hsz3
  have H3 := Lib.hid hb3
  have HBs := Lib.hid hBs
  clear hsz3 hb3 hBs
  go_region_law ((refine step_append_at _ (by rfl) _ _ _ (by rfl) B 31 i0 _ 4 32 Try.underlying40 hi hz0 hz1 hz2 rfl (by omega) (.slice A L.length c) L.length (cellsK enc4 L) (by rfl) (Q2.out.2.alloc _) ⟨w2.heap.size, 0, none⟩ 1 1 [.int .i64 x1, .int .i64 x2, .int .i64 x3, .int .i64 x4] (by rfl) (by rfl) (World.news_of_block (heap_alloc_new w2 _)) (by simp [Value.oneCell']) (by unfold maxLen; omega) (by omega) HBs.out ?_; intro vb wb hownb hgrowb hnilb hlocb; have hf2 := Fr.grow (S := fun k => (Value.slice A L.length c).ownBlock = some k) H3.out hgrowb (fun i hi => .inl hi); have k1 := hf2.cell q2 lb2 (fun e => Q2.out.ne b e rfl); have kf := hf2.frozen Q2.out.f1 lb2 (fun e => Q2.out.ne b e rfl); obtain ⟨A', c', rfl, hlc', hcm'⟩ := row_open enc4_len hownb))
  all_goals
    have hnb : ∀ g, (Value.slice A' (L.length + 1) c').ownBlock = some g → g ≠ b := fun g hg => by
      rcases hlocb with e | e
      · rw [hg] at e; exact Q2.out.ne g e.symm
      · rw [hg, HS3.out] at e; cases e; omega
    have hrow2 : wb.ownsRow B 31 4 (.slice A' (L.length + 1) c') (L ++ [(x1, x2, x3, x4)]).length (cellsK enc4 (L ++ [(x1, x2, x3, x4)])) := by
      rw [cellsK_append, cellsK_one, List.length_append]
      exact hownb
    have HB := Lib.hid (Q2.out.store hf2 (fun e => Q2.out.ne b e rfl) hrow2 hnb)
    have HLOC := Lib.hid (show ∀ g, (Value.slice A' (L.length + 1) c').ownBlock = some g → (Value.slice A L.length c).ownBlock = some g ∨ w.heap.size ≤ g from fun g hg => by
      rcases hlocb with e | e
      · exact .inl (by rw [← e]; exact hg)
      · rw [hg, HS3.out] at e; cases e; exact .inr (by omega))
    clear hownb hgrowb hnilb hlocb hf2 hnb hrow2
    go_wp2
    go_ret
    exact ⟨rfl, _, HB.out.1, ((Fr.of_below HB2.out).mono (fun _ h => h.elim)).trans (HB.out.2.mono (fun k hk => by rcases hk with e | e; exact .inr e; exact .inl e)), HLOC.out⟩
end Go.Proofs.Ytcallnhkojgnmaa.Q
