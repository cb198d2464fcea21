/- Items, walked. Conditions: those that each theorem names. -/
import Derived.Maps.OwnIn
import Derived.Deep.AppendLies
import Derived.Test.YtcallnhkojgnmaaItm
namespace Go.Proofs.Ytcallnhkojgnmaa.Q
open Go.RowKit Go.Sort Go.Shelf
open Go.Proofs.Ytcallnhkojgnmaa.Ma
set_option linter.unusedVariables false
set_option linter.unusedSimpArgs false
attribute [local go_sem] Oper.semAt_some
theorem sort_row (B : Nat) (v : Value) (L : List It) (w : World) (h : w.ownsRow B 31 4 v L.length (cellsK enc4 L)) (hlen : L.length ≤ 1000000) :
    Calls Try.prog 28 #[v, .func (.func 29) #[] #[]] w fun e w' => e = .returned (.tuple #[]) ∧ ∃ M : List It, M.Perm L ∧ Order M ∧ w'.ownsRow B 31 4 v L.length (cellsK enc4 M) ∧ Fr (fun k => v.ownBlock = some k) w w' := by
  rcases h.2 with ⟨rfl, hn⟩ | ⟨g, cap, cur, rfl, _⟩
  · obtain rfl : L = [] := List.length_eq_zero_iff.1 hn
    refine (sort_nil 0 _ w).mono ?_
    rintro e w' ⟨he, rfl⟩
    exact ⟨he, [], List.Perm.refl _, List.Pairwise.nil, h, Fr.refl _ _⟩
  · refine (sort_some B g cap L w h hlen).mono ?_
    rintro e w' ⟨he, M, h1, h2, h3, h4⟩
    exact ⟨he, M, h1, h2, h3, h4.mono (fun k hk => by rw [show k = g from hk]; rfl)⟩
set_option maxRecDepth 100000 in
set_option maxHeartbeats 4000000 in
theorem items_in (B b : Nat) (L : List It) (v : Value) (w : World) (h : QAt B w b L v) (hlen : L.length ≤ 8) :
    CallsIn Fence.wide 5 Try.prog 17 #[.pointer (some ⟨b, 0, none⟩)] w fun e w' => ∃ v' M, e = .returned v' ∧ M.Perm L ∧ Order M ∧ w'.ownsRow w.heap.size 31 4 v' L.length (cellsK enc4 M) ∧ Below w.heap.size w w' := by
  have q0 := h.c0
  have q1 := h.c1
  have hb := lt_of_heap h.1
  obtain ⟨A, c, rfl, _, _⟩ := row_open enc4_len h.2
  have HL := Lib.hid (row_lies enc4_len h.2)
  clear h
  refine callsIn_of_wp_marks Try.func17 rfl trivial ?_ rfl
  simp only [Try.ntmps17, List.size_toArray, List.length_cons, List.length_nil, Nat.reduceAdd, Nat.reduceSub, Array.replicate_succ, Array.replicate_zero, List.push_toArray, List.append_toArray, List.nil_append, List.cons_append]
  gi_wp2_with (first | (refine ⟨trivial, ?_⟩; gi_at_call 23; refine (callsIn_wide.2 (none_at b _ q0)).mono ?_; rintro e w1 ⟨rfl, rfl⟩) | (refine ⟨trivial, ?_⟩; gi_at_call 27; refine (values_in Fence.wide _ trivial rfl _ _ _ _).mono ?_; rintro e w4 ⟨rfl, rfl⟩))
  obtain ⟨W0, hW0, bS, bV, hsz, hB0⟩ : ∃ W0 : World, (w.alloc (.cells #[.slice none 0 0] 40)).alloc (.cells #[.slice A L.length c] 40) = W0 ∧ Boxed W0 w.heap.size 40 (.slice none 0 0) ∧ Boxed W0 (w.heap.size + 1) 40 (.slice A L.length c) ∧ W0.heap.size = w.heap.size + 2 ∧ Below w.heap.size w W0 := by
    refine ⟨_, rfl, (Boxed.new w 40 (.slice none 0 0)).alloc _, ?_, by simp, ((Below.refl _ _).alloc (Nat.le_refl _) _).alloc (by simp) _⟩
    have := Boxed.new (w.alloc (.cells #[.slice none 0 0] 40)) 40 (.slice A L.length c)
    rwa [show (w.alloc (.cells #[.slice none 0 0] 40)).heap.size = w.heap.size + 1 by simp] at this
  rw [hW0]
  clear hW0
  obtain ⟨i0, hi, hz0, hz1, hz2⟩ := info_parts info31
  refine wpIn_rangeFunc_ownH rfl (by omega) (gf := 33) (lb := #[.pointer (some ⟨w.heap.size + 1, 0, none⟩)]) rfl trivial (enters_of Try.func33 (by kernel_rfl) rfl)
    (values_stops Fence.wide 4 trivial rfl (by omega) (w.heap.size + 1) c A L hlen w W0 hB0 HL.out (by omega) bV.cell) belowK_t (belowK_b (by omega)) (Below.refl _ _) (fun _ => rfl)
    (fun pre W => (∃ v', Boxed W w.heap.size 40 v' ∧ W.ownsRow w.heap.size 31 4 v' pre.length (cellsK enc4 pre) ∧ True) ∧ Below w.heap.size w W)
    (fun _ _ _ => False)
    (OwnFrom.and (Own.from (holdsRow_own w.heap.size w.heap.size 40 31 4 (fun pre : List It => pre.length) (fun pre => cellsK enc4 pre) (fun _ _ => True)) _) (ownFrom_below (Nat.le_refl _) (by omega)))
    (fun _ _ _ _ _ hs _ _ => hs)
    ⟨⟨_, bS, World.ownsRow_nil _ _ _ _, trivial⟩, hB0⟩
    (fun x a' W => ∃ Bx, w.heap.size < Bx ∧ W.heap[Bx]? = some (.cells #[.int .i64 x.1, .int .i64 x.2.1, .int .i64 x.2.2.1, .int .i64 x.2.2.2] 31 (0, 0)) ∧ a' = { tmps := #[.pointer (some ⟨b, 0, none⟩), undef, .slice none 0 0, .pointer (some ⟨w.heap.size, 0, none⟩), .pointer (some ⟨Bx, 0, none⟩), .pointer (some ⟨b, 0, none⟩), .bool false, .pointer (some ⟨b, 0, none⟩), .pointer (some ⟨b, 0, none⟩), .pointer (some ⟨b, 1, none⟩), .slice A L.length c, .func (.func 33) #[] #[.pointer (some ⟨w.heap.size + 1, 0, none⟩)], aggQ x, undef, undef, undef, undef, undef, undef, undef], defers := [] })
    (fun x a' _ X Y row hs hg hr => by
      obtain ⟨Bx, h1, h2, h3⟩ := hs
      refine ⟨Bx, h1, (hg.block Bx (lt_of_heap h2) (fun e => ?_)).trans h2, h3⟩
      obtain ⟨_, o, ho, hc⟩ := hr Bx e.symm
      rw [h2] at ho
      cases ho
      cases hc)
    ?assign ?body ?done ?stop
  case assign =>
    rintro l pre ⟨x1, x2, x3, x4⟩ W K ⟨⟨v', bS1, hr1, _⟩, hB1⟩ hK
    gi_wp2
    exact hK _ _ ((KeepsOthers.alloc _ _).from _) ((Below.refl _ W).alloc hB1.size _) ⟨⟨v', bS1.alloc _, hr1.alloc _, trivial⟩, hB1.alloc hB1.size _⟩ ⟨W.heap.size, bS1.lt, heap_alloc_new W _, rfl⟩
  case body =>
    rintro l pre ⟨x1, x2, x3, x4⟩ a' W hl ⟨r, hr⟩ ⟨⟨v', bS1, hr1, _⟩, hB1⟩ ⟨Bx, hBx, bX, rfl⟩ hlt
    have cS := bS1.cell
    have d0 := cell_of_heap (i := 0) bX rfl
    have d1 := cell_of_heap (i := 1) bX rfl
    have d2 := cell_of_heap (i := 2) bX rfl
    have d3 := cell_of_heap (i := 3) bX rfl
    gi_wp2_with (gi_at_builtin; refine wpListIn_append_own_at _ rfl _ _ 40 rfl w.heap.size 31 i0 _ 4 32 Try.underlying40 hi hz0 hz1 hz2 rfl (by decide) _ _ _ rfl (hr1.alloc _) ⟨W.heap.size, 0, none⟩ 1 1 [.int .i64 x1, .int .i64 x2, .int .i64 x3, .int .i64 x4] rfl rfl (World.news_of_block (heap_alloc_new W _)) (by simp [Value.oneCell']) (by unfold maxLen; omega) (by omega) (by have := hB1.size; simp; omega) ?_; intro v2 w2 hown2 hgrow2 _ _; obtain ⟨A2, c2, rfl, _, _⟩ := row_open enc4_len hown2; obtain ⟨hv1, hv2, hr2, hk2, hb2⟩ := bS1.appended (by decide) hr1 hB1.size (Nat.le_refl _) hown2 hgrow2; have hc1 := hv1.cell; have hf1 := hv1.frozen)
    exact ⟨hk2.from _, hb2, ⟨_, hv2, by rw [List.length_append, cellsK_append, cellsK_one]; exact hr2⟩, hB1.trans hb2⟩
  case done =>
    rintro D zs W hD rfl ⟨⟨v', bS1, hr1, _⟩, hB1⟩ hK
    obtain ⟨A2, c2, rfl, _, _⟩ := row_open enc4_len hr1
    have cS := bS1.cell
    have HS := Lib.hid (sort_row w.heap.size _ zs W hr1 (by omega))
    have HBx := Lib.hid bS1
    have HK := Lib.hid hK
    have HB1 := Lib.hid hB1
    have HR1 := Lib.hid hr1
    have hne : ∀ g, (Value.slice A2 zs.length c2).ownBlock = some g → g ≠ w.heap.size ∧ g ≠ D := fun g hg => by
      obtain ⟨cur, hcur⟩ := own_block hr1 hg
      refine ⟨fun e => ?_, fun e => ?_⟩
      · subst e
        rw [show W.heap[w.heap.size]? = _ from bS1] at hcur
        cases hcur
      · subst e
        rw [hK] at hcur
        cases hcur
    have HNE := Lib.hid hne
    clear hK hB1 hr1 hne
    gi_wp2_with (refine ⟨trivial, ?_⟩; gi_at_call 28; refine (callsIn_wide.2 HS.out).mono ?_; rintro e w7 ⟨rfl, M, hp, ho, hr7, hf7⟩; have bS7 : Boxed w7 w.heap.size 40 (.slice A2 zs.length c2) := hf7.keep HBx.out (fun e => (HNE.out _ e).1 rfl); have cS7 := bS7.cell)
    have hK7 : w7.heap[D]? = some (.deferred (some [])) := hf7.keep HK.out (fun e => (HNE.out _ e).2 rfl)
    refine ⟨by simp, .inl ⟨_, _, rfl, run_takeDeferred hK7, ?_⟩⟩
    have hB7 : Below w.heap.size w w7 := HB1.out.trans (hf7.below HB1.out.size (fun k hk => (HR1.out.lt k hk).1))
    exact ⟨_, results_tmp rfl _ _ _, _, M, rfl, hp, ho, ownsRow_putObj hr7 _ hK7 rfl, hB7.trans (belowK_b (w := w) (Nat.le_refl _) w7 D (.deferred (some [])) (.deferred none) (by omega) hK7 rfl rfl)⟩
  case stop =>
    rintro D c pre W _ _ h _
    exact h.elim
end Go.Proofs.Ytcallnhkojgnmaa.Q
