/- The values of a list, ranged over, and collected. Conditions: those that each theorem names. -/
import Derived.RangeFuncNested
import Derived.RangeFuncBound
import Derived.RangeFuncCalls
import Derived.RangeFuncLeaves
import Derived.RangeFuncBox
import Derived.Shelf.Abstract
import Derived.Shelf.RegionOpen
import Derived.CallsIn
import Derived.OwnWalkIn
import Derived.TacticsInMore
import Derived.LoopNIn
import Derived.LoopIn
import Derived.Maps.OwnIn
import Derived.Deep.AppendLies
import Derived.Test.YtdlmkdldmiiaiaaOrd
namespace Go.Proofs.Ytdlmkdldmiiaiaa.D
open Go.RowKit Go.Sort Go.Shelf
open Go.Proofs.Ytdlmkdldmiiaiaa.Ma
set_option linter.unusedVariables false
set_option linter.unusedSimpArgs false
attribute [local go_sem] Oper.semAt_some
theorem info24 : (Try.prog.info? 41).map (fun i => (i.zero, i.size, i.bytes)) = some (some (.agg #[.int .i64 0, .int .i64 0]), 2, 16) := by kernel_rfl
abbrev aggQ (x : Ed) : Value := .agg #[.int .i64 x.1, .int .i64 x.2]
set_option maxRecDepth 100000 in
set_option maxHeartbeats 2000000 in
theorem val1_in (F : Fence) (n : Nat) (h32 : F.fn 80) (hro : F.round = none) (hn : 1 ≤ n) (l Bs c : Nat) (A : Option Addr) (L : List Ed) (hlen : L.length ≤ 1000000) (w0 : World) (hL : Lies enc2 2 w0 A L) (J Jx : List Ed → World → Prop)
    (hJ : ∀ pre W o, J pre W → J pre (W.alloc o)) (hJx : True)
    (hY : ∀ pre (x : Ed) W, J pre W → pre.length < L.length → YieldAt F (n - 1) Try.prog l #[aggQ x] W fun e W' =>
      (e = .returned (.bool true) ∧ J (pre ++ [x]) W' ∧ Below w0.heap.size W W') ∨ (e = .returned (.bool false) ∧ Jx (pre ++ [x]) W'))
    (W : World) (hb0 : Below w0.heap.size w0 W) (hBs : W.cell? ⟨Bs, 0, none⟩ = some (.slice A L.length c)) (h0 : J [] W) :
    CallsIn F n Try.prog 80 #[.func (.yield l) #[] #[], .pointer (some ⟨Bs, 0, none⟩)] W fun e W' => (∃ v, e = .returned v) ∧
      ((∃ ys, ys = L ∧ J ys W') ∨ (∃ pre, pre <+: L ∧ Jx pre W')) := by
  have HL := Lib.hid hL
  have HLen := Lib.hid hlen
  clear hL hlen
  refine callsIn_of_wp Try.func80 rfl h32 ?_ hro
  simp only [Try.ntmps80, List.size_toArray, List.length_cons, List.length_nil, Nat.reduceAdd, Nat.reduceSub, Array.replicate_succ, Array.replicate_zero, List.push_toArray, List.append_toArray, List.nil_append, List.cons_append]
  gi_wp2
  gi_loopw [7] (fun i wr => ∃ k : Nat, k ≤ L.length ∧ i = .int .i64 k ∧ J (L.take k) wr ∧ Below w0.heap.size w0 wr)
    (fun i _ => L.length - (intOf i).toNat)
  case atStart => exact ⟨0, Nat.zero_le _, rfl, h0, hb0⟩
  case round =>
    obtain ⟨k, hk, rfl, hJs, hnx⟩ := hrel
    by_cases hlt : k < L.length
    · obtain ⟨⟨x1, x2⟩, hx⟩ : ∃ p, L[k]? = some p := ⟨L[k], List.getElem?_eq_getElem _⟩
      obtain ⟨b, o, rfl, hbl, q0, q1⟩ := lies2 (HL.out.below hnx (Nat.le_refl _)) hx
      have HX := Lib.hid hx
      have hY' := hY _ (x1, x2) _ (hJ _ _ (.cells #[.int .i64 x1, .int .i64 x2] 41) hJs) (by rw [List.length_take]; omega)
      obtain ⟨fn, tmps, assign, body, hy, hR⟩ := hY'
      dsimp only [aggQ] at hy
      clear hx
      have hlen := HLen.out
      gi_wp2
      refine hR.mono ?_
      rintro e W3 (⟨rfl, hJ3, hk3⟩ | ⟨rfl, hJx3⟩)
      · gi_wp2
        go_roundw
        case rel => exact ⟨k + 1, by omega, by go_num, by rw [List.take_add_one, HX.out]; exact hJ3, (hnx.alloc hnx.size _).trans hk3⟩
        case measure => simp [intOf]; omega
      · gi_wp2
        refine bodyPost_ret (results_none rfl _ _ _) rfl ?_
        exact ⟨⟨_, rfl⟩, .inr ⟨_, by rw [show L.take k ++ [(x1, x2)] = L.take (k + 1) by rw [List.take_add_one, HX.out]; rfl]; exact List.take_prefix _ _, hJx3⟩⟩
    · obtain rfl : k = L.length := by omega
      rw [List.take_length] at hJs
      gi_wp2
      go_end0
      exact ⟨⟨_, rfl⟩, .inl ⟨_, rfl, hJs⟩⟩
theorem values_at (a : Option Addr) (len cap : Nat) (w : World) :
    Calls Try.prog 58 #[.slice a len cap] w fun e w' => e = .returned (.func (.func 80) #[] #[.pointer (some ⟨w.heap.size, 0, none⟩)]) ∧ w' = w.alloc (.cells #[.slice a len cap] 22) := by
  go_enter Try.func58, Try.ntmps58
  go_wp2
  go_ret
  exact ⟨rfl, rfl⟩
theorem values_stops (F : Fence) (n : Nat) (h32 : F.fn 80) (hro : F.round = none) (hn : 1 ≤ n) (Bs c : Nat) (A : Option Addr) (L : List Ed) (hlen : L.length ≤ 1000000) (w0 w : World) (hw : Below w0.heap.size w0 w) (hL : Lies enc2 2 w0 A L) (hBs : Bs < w.heap.size) (hc : w.cell? ⟨Bs, 0, none⟩ = some (.slice A L.length c)) :
    SeqStopsK F n Try.prog 80 #[.pointer (some ⟨Bs, 0, none⟩)] (fun x : Ed => #[aggQ x]) (Below w0.heap.size) (fun ys => ys = L) (fun pre => pre <+: L) L.length w := fun l J Jx W hW hJ _ hY h0 =>
  val1_in F n h32 hro hn l Bs c A L hlen w0 hL J Jx (fun pre W1 o h => hJ pre W1 _ none h (World.grownBy_alloc W1 o none) (fun r e => by cases e)) trivial hY W (hw.trans (hW.mono hw.size)) ((hW.cell (p := ⟨Bs, 0, none⟩) hBs).trans hc) h0
set_option maxRecDepth 100000 in
set_option maxHeartbeats 4000000 in
theorem append_in (A : Option Addr) (c Bs : Nat) (L : List Ed) (w : World) (hL : Lies enc2 2 w A L) (hlen : L.length ≤ 1000000) (hBs : Bs < w.heap.size) (hc : w.cell? ⟨Bs, 0, none⟩ = some (.slice A L.length c)) :
    CallsIn Fence.wide 5 Try.prog 100 #[.slice none 0 0, .func (.func 80) #[] #[.pointer (some ⟨Bs, 0, none⟩)]] w fun e w' => ∃ v', e = .returned v' ∧ w'.ownsRow w.heap.size 41 2 v' L.length (cellsK enc2 L) ∧ Below w.heap.size w w' := by
  have HL := Lib.hid hL
  have HLen := Lib.hid hlen
  clear hL hlen
  refine callsIn_of_wp_marks Try.func100 rfl trivial ?_ rfl
  simp only [Try.ntmps100, List.size_toArray, List.length_cons, List.length_nil, Nat.reduceAdd, Nat.reduceSub, Array.replicate_succ, Array.replicate_zero, List.push_toArray, List.append_toArray, List.nil_append, List.cons_append]
  gi_wp2
  obtain ⟨W0, hW0, bS, hsz, hB0⟩ : ∃ W0 : World, w.alloc (.cells #[.slice none 0 0] 22) = W0 ∧ Boxed W0 w.heap.size 22 (.slice none 0 0) ∧ W0.heap.size = w.heap.size + 1 ∧ Below w.heap.size w W0 :=
    ⟨_, rfl, Boxed.new w 22 (.slice none 0 0), by simp, (Below.refl _ _).alloc (Nat.le_refl _) _⟩
  rw [hW0]
  clear hW0
  obtain ⟨i0, hi, hz0, hz1, hz2⟩ := info_parts info24
  refine wpIn_rangeFunc_ownH rfl (by omega) (gf := 80) (lb := #[.pointer (some ⟨Bs, 0, none⟩)]) rfl trivial (enters_of Try.func80 (by kernel_rfl) rfl)
    (values_stops Fence.wide 4 trivial rfl (by omega) Bs c A L HLen.out w W0 hB0 HL.out (by omega) ((hB0.cell (p := ⟨Bs, 0, none⟩) hBs).trans hc)) belowK_t (belowK_b (by omega)) (Below.refl _ _) (fun _ => rfl)
    (fun pre W => (∃ v', Boxed W w.heap.size 22 v' ∧ W.ownsRow w.heap.size 41 2 v' pre.length (cellsK enc2 pre) ∧ True) ∧ Below w.heap.size w W)
    (fun _ _ _ => False)
    (OwnFrom.and (Own.from (holdsRow_own w.heap.size w.heap.size 22 41 2 (fun pre : List Ed => pre.length) (fun pre => cellsK enc2 pre) (fun _ _ => True)) _) (ownFrom_below (Nat.le_refl _) (by omega)))
    (fun _ _ _ _ _ hs _ _ => hs)
    ⟨⟨_, bS, World.ownsRow_nil _ _ _ _, trivial⟩, hB0⟩
    (fun x a' W => ∃ Bx, w.heap.size < Bx ∧ W.heap[Bx]? = some (.cells #[.int .i64 x.1, .int .i64 x.2] 41 (0, 0)) ∧ a' = { tmps := #[.slice none 0 0, .func (.func 80) #[] #[.pointer (some ⟨Bs, 0, none⟩)], .pointer (some ⟨w.heap.size, 0, none⟩), undef, .slice none 0 0, .pointer (some ⟨Bx, 0, none⟩), .func (.func 80) #[] #[.pointer (some ⟨Bs, 0, none⟩)], aggQ x, undef, undef, undef, undef, undef], defers := [] })
    (fun x a' _ X Y row hs hg hr => by
      obtain ⟨Bx, h1, h2, h3⟩ := hs
      refine ⟨Bx, h1, (hg.block Bx (lt_of_heap h2) (fun e => ?_)).trans h2, h3⟩
      obtain ⟨_, o, ho, hc⟩ := hr Bx e.symm
      rw [h2] at ho
      cases ho
      cases hc)
    ?assign ?body ?done ?stop
  case assign =>
    rintro l pre ⟨x1, x2⟩ W K ⟨⟨v', bS1, hr1, _⟩, hB1⟩ hK
    gi_wp2
    exact hK _ _ ((KeepsOthers.alloc _ _).from _) ((Below.refl _ W).alloc hB1.size _) ⟨⟨v', bS1.alloc _, hr1.alloc _, trivial⟩, hB1.alloc hB1.size _⟩ ⟨W.heap.size, bS1.lt, heap_alloc_new W _, rfl⟩
  case body =>
    rintro l pre ⟨x1, x2⟩ a' W hl ⟨r, hr⟩ ⟨⟨v', bS1, hr1, _⟩, hB1⟩ ⟨Bx, hBx, bX, rfl⟩ hlt
    have cS := bS1.cell
    have d0 := cell_of_heap (i := 0) bX rfl
    have d1 := cell_of_heap (i := 1) bX rfl
    have hlen := HLen.out
    gi_wp2_with (gi_at_builtin; refine wpListIn_append_own_at _ rfl _ _ 22 rfl w.heap.size 41 i0 _ 2 16 Try.underlying22 hi hz0 hz1 hz2 rfl (by decide) _ _ _ rfl (hr1.alloc _) ⟨W.heap.size, 0, none⟩ 1 1 [.int .i64 x1, .int .i64 x2] rfl rfl (World.news_of_block (heap_alloc_new W _)) (by simp [Value.oneCell']) (by unfold maxLen; omega) (by omega) (by have := hB1.size; simp; omega) ?_; intro v2 w2 hown2 hgrow2 _ _; obtain ⟨A2, c2, rfl, _, _⟩ := row_open enc2_len hown2; obtain ⟨hv1, hv2, hr2, hk2, hb2⟩ := bS1.appended (by decide) hr1 hB1.size (Nat.le_refl _) hown2 hgrow2; have hc1 := hv1.cell; have hf1 := hv1.frozen)
    exact ⟨hk2.from _, hb2, ⟨_, hv2, by rw [List.length_append, cellsK_append, cellsK_one]; exact hr2⟩, hB1.trans hb2⟩
  case done =>
    rintro D zs W hD rfl ⟨⟨v', bS1, hr1, _⟩, hB1⟩ hK
    obtain ⟨A2, c2, rfl, _, _⟩ := row_open enc2_len hr1
    have cS := bS1.cell
    gi_wp2
    refine ⟨by simp, .inl ⟨_, _, rfl, run_takeDeferred hK, ?_⟩⟩
    exact ⟨_, results_tmp rfl _ _ _, _, rfl, ownsRow_putObj hr1 _ hK rfl, hB1.trans (belowK_b (w := w) (Nat.le_refl _) W D (.deferred (some [])) (.deferred none) (by omega) hK rfl rfl)⟩
  case stop =>
    rintro D c pre W _ _ h _
    exact h.elim
/-- slices.Collect(slices.Values(l)): the list anew. -/
theorem collect_at (A : Option Addr) (c Bs : Nat) (L : List Ed) (w : World) (hL : Lies enc2 2 w A L) (hlen : L.length ≤ 1000000) (hBs : Bs < w.heap.size) (hc : w.cell? ⟨Bs, 0, none⟩ = some (.slice A L.length c)) :
    Calls Try.prog 78 #[.func (.func 80) #[] #[.pointer (some ⟨Bs, 0, none⟩)]] w fun e w' => ∃ v', e = .returned v' ∧ w'.ownsRow w.heap.size 41 2 v' L.length (cellsK enc2 L) ∧ Below w.heap.size w w' := by
  have HA := Lib.hid (callsIn_wide.1 (append_in A c Bs L w hL hlen hBs hc))
  clear hL hlen hBs hc
  go_enter Try.func78, Try.ntmps78
  go_wp2_with (go_at_call 100; refine HA.out.mono ?_; rintro e w1 ⟨v', rfl, hr, hb⟩; have HR := Lib.hid hr; have HB := Lib.hid hb; clear hr hb)
  go_ret
  exact ⟨v', rfl, HR.out, HB.out⟩
/-- slices.SortedFunc(slices.Values(l), by). -/
theorem sorted_at (A : Option Addr) (c Bs : Nat) (L : List Ed) (w : World) (hL : Lies enc2 2 w A L) (hlen : L.length ≤ 1000000) (hBs : Bs < w.heap.size) (hc : w.cell? ⟨Bs, 0, none⟩ = some (.slice A L.length c)) :
    Calls Try.prog 57 #[.func (.func 80) #[] #[.pointer (some ⟨Bs, 0, none⟩)], .func (.func 59) #[] #[]] w fun e w' => ∃ v' M, e = .returned v' ∧ M.Perm L ∧ Order M ∧ w'.ownsRow w.heap.size 41 2 v' M.length (cellsK enc2 M) ∧ Below w.heap.size w w' := by
  have HA := Lib.hid (collect_at A c Bs L w hL hlen hBs hc)
  have HLen := Lib.hid hlen
  clear hL hlen hBs hc
  go_enter Try.func57, Try.ntmps57
  go_wp2_with (first
    | (go_at_call 79; refine (sort_row _ _ _ _ HR.out HLen.out).mono ?_; rintro e w2 ⟨rfl, M, hp, ho, hr2, hf⟩; have HP := Lib.hid hp; have HO := Lib.hid ho; have HR2 := Lib.hid hr2; have HF := Lib.hid hf; clear hp ho hr2 hf)
    | (go_at_call 78; refine HA.out.mono ?_; rintro e w1 ⟨v', rfl, hr, hb⟩; have HR := Lib.hid hr; have HB := Lib.hid hb; clear hr hb))
  go_ret
  exact ⟨_, M, rfl, HP.out, HO.out, by rw [HP.out.length_eq]; exact HR2.out, HB.out.trans (HF.out.below HB.out.size (fun k hk => (HR.out.lt k hk).1))⟩
end Go.Proofs.Ytdlmkdldmiiaiaa.D
