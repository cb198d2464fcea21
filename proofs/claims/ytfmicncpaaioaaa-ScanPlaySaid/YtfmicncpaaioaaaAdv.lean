/- The cursor goes on to the next shard: all that are attached wait. Conditions: the scan lies as it may. -/
import Derived.IntWalk
import Derived.Test.YtfmicncpaaioaaaIds
namespace Go.Proofs.Ytfmicncpaaioaaa.Sc
open Go.RowKit Go.Maps Go.Sort Go.Shelf
open Go.Proofs.Ytfmicncpaaioaaa.Ma
set_option linter.unusedVariables false
set_option linter.unusedSimpArgs false
theorem wpList_put_ranges {H : Type} {P : Program} (w : World) {ops : Array Oper} {rest : List Oper} {o : Oper} {a : Act} {Q : Exit → Act → World → Prop} (hg : o.guard = none) (m x v : Operand) (t : TypeId) (hop : o.op = Op.mapUpdate t m x v)
    (k e : TypeId) (K : Keyed P k) (ht : P.underlying t = some (.map k e)) (R : Value → Option (DataW H × List MemPlace)) (b r n : Nat) (D : DataW H) (left : Lit → Bool) (cnt : Nat)
    (hm : a.eval m = .map (some b)) (h : w.ranges P k R b r n D left cnt) (key val : Value) (kl : Lit) (hx : a.eval x = key) (hv : a.eval v = val) (hkey : keyOf P k key = some kl)
    (d : DataW H) (ps : List MemPlace) (hval : R val = some (d, ps)) (hhas : Maps.has D kl = true)
    (hK : ∀ w', w'.ranges P k R b r n (D.put kl d) left cnt → w.mapTurned w' b → wpList P ops Q rest (a.put o.dst undef) w') :
    wpList P ops Q (o :: rest) a w := by
  refine wpList_plain hg fun K' hK' => ?_
  obtain ⟨w', hrun, r1, r2⟩ := ranges_put h K ht hkey hval hhas
  unfold Oper.wp
  simp [execOp, hop, hm, hx, hv, hrun, Result.andThen]
  exact hK' _ _ (hK w' r1 r2)
theorem bool_shape {v : Value} {y : DataW Unit × List MemPlace} (h : plainElem Try.prog 4 v = some y) : ∃ c, v = .bool c := by
  unfold plainElem at h
  rw [Try.underlying4] at h
  cases v <;> simp at h
  exact ⟨_, rfl⟩
theorem key_shape {key : Value} {kl : Lit} (h : keyOf Try.prog 3 key = some kl) : ∃ x, key = encZ x := by
  obtain ⟨x, hx, _⟩ := Maps.keyOf_i64 Try.underlying3 h
  exact ⟨x, hx⟩
theorem next_ib (w : World) {ops : Array Oper} {rest : List Oper} {o : Oper} {a : Act} {Q : Exit → Act → World → Prop} (hg : o.guard = none) (it : Operand) (hop : o.op = Op.next it false) (b r n : Nat) (D : DataW Unit) (left : Lit → Bool) (cnt : Nat)
    (hit : a.eval it = .pointer (some ⟨r, 0, none⟩)) (h : w.ranges Try.prog 3 (plainElem Try.prog 4) b r n D left cnt)
    (hDone : (∀ kl, left kl = false) → wpList Try.prog ops Q rest (a.put o.dst (.tuple #[.bool false])) w)
    (hMore : ∀ (x : Int) (c : Value) (w' : World) (cnt' : Nat), (Lit.int .i64 x).wf = true → left (.int .i64 x) = true → Maps.has D (.int .i64 x) = true → w'.ranges Try.prog 3 (plainElem Try.prog 4) b r n D (fun z => left z && !z.sameKey (.int .i64 x)) cnt' → cnt' < cnt →
      w.grownBy w' (some r) → (Instr.entry (.pointer (some ⟨r, 0, none⟩))).run Try.prog w' = .ok (.tuple #[encZ x, c]) w' → wpList Try.prog ops Q rest (a.put o.dst (.tuple #[.bool true, encZ x, c])) w') :
    wpList Try.prog ops Q (o :: rest) a w := by
  refine wpList_next_ranges w hg it hop 3 law3 (plainElem Try.prog 4) encZ Value.bool (fun _ _ => key_shape) (fun _ _ => bool_shape) b r n D left cnt hit h (fun _ hl => hDone hl) (fun x c kl y w' cnt' hkey hlk hv hat hrg hlt hgr hsz hen => ?_)
  obtain ⟨x', ex, rfl, hwx⟩ := Maps.keyOf_i64 Try.underlying3 hkey
  cases ex
  exact hMore x (.bool c) w' cnt' hwx hlk (Maps.has_true_of_atKey hat) hrg hlt hgr hen
/-- Those that have come wait; the others are as they were. -/
def cur (L : List Ent) (left : Lit → Bool) : List Ent := L.map fun p => if left (.int .i64 p.1) = true then p else (p.1, true)
theorem cur_fst (L : List Ent) (left : Lit → Bool) : (cur L left).map Prod.fst = L.map Prod.fst := by
  unfold cur
  rw [List.map_map]
  apply List.map_congr_left
  intro p _
  simp only [Function.comp]
  split <;> rfl
theorem cur_rising {L : List Ent} (h : Rising L) (left : Lit → Bool) : Rising (cur L left) := by
  unfold cur
  rw [Rising, List.pairwise_map]
  refine h.imp (fun {a b} hab => ?_)
  split <;> split <;> exact hab
theorem cur_has (L : List Ent) (left : Lit → Bool) (x : Int) : Ma.has (cur L left) x = Ma.has L x := by
  unfold Ma.has cur
  rw [List.any_map]
  congr 1
  funext p
  simp only [Function.comp]
  split <;> rfl
theorem cur_start (L : List Ent) : cur L (Maps.has (mk L)) = L := by
  unfold cur
  refine (List.map_congr_left (fun p hp => ?_)).trans (List.map_id L)
  rw [mk_has, if_pos (has_iff.2 ⟨p, hp, rfl⟩)]
  rfl
theorem cur_end {L : List Ent} {left : Lit → Bool} (h : ∀ kl, left kl = false) : cur L left = allT L := by
  unfold cur allT
  apply List.map_congr_left
  intro p _
  rw [h, if_neg (by simp)]
theorem cur_step {L : List Ent} (hr : Rising L) {left : Lit → Bool} {x : Int} (hx : Ma.has L x = true) : (mk (cur L left)).put (.int .i64 x) (.lit (.bool true)) = mk (cur L (fun z => left z && !z.sameKey (.int .i64 x))) := by
  rw [mk_put, ins_del (cur_rising hr left) (by rw [cur_has]; exact hx)]
  congr 1
  unfold setK cur
  rw [List.map_map]
  apply List.map_congr_left
  intro p _
  simp only [Function.comp, Lit.sameKey, true_and]
  by_cases e : p.1 = x
  · subst e
    cases hl : left (.int .i64 p.1) <;> simp
  · cases hl : left (.int .i64 p.1) <;> simp [e]
def advF (n at_ : Int) (L : List Ent) : (Int × Int) × Int × List Ent := if idsOf false L = [] then (((at_ + 1) % n, 0), (at_ + 1) % n, allT L) else ((0, 271), at_, L)
theorem adv_wait (b bm : Nat) (n at_ : Int) (L : List Ent) (w : World) (h : ScanAt w b bm n at_ L) (hok : Ok L) (hn : 0 < n) (hw : idsOf false L ≠ []) :
    Calls Try.prog 17 #[.pointer (some ⟨b, 0, none⟩)] w fun e w' => e = .returned (.tuple #[.int .i64 0, .int .i64 271]) ∧ ScanAt w' b bm n at_ L ∧ Fr (fun k => k = b ∨ k = bm) w w' := by
  have c0 := h.c0
  have HA := Lib.hid h
  have HW := Lib.hid (waiting_at b bm n at_ L w h hok hn)
  have hpos : 0 < (idsOf false L).length := List.length_pos_iff.2 hw
  have hlt : (idsOf false L).length ≤ 4 := by have := idsOf_le false L L.length; rw [List.take_length] at this; have := hok.len; omega
  clear h hok hw
  go_enter Try.func17, Try.ntmps17
  go_wp2_with (first | (go_at_call 24; refine (none_at _ _ _ c0 hn).mono ?_; rintro e w' ⟨rfl, rfl⟩) | (go_at_call 20; refine HW.out.mono ?_; rintro e w1 ⟨v, rfl, hr, hb⟩; obtain ⟨A, c, rfl, _, _, _⟩ := ids_cells hr; clear hr))
  go_ret2
  exact ⟨rfl, HA.out.kept (Fr.of_below hb) (fun e => e) (fun e => e), (Fr.of_below hb).mono (fun _ h => h.elim)⟩
set_option maxHeartbeats 2000000 in
theorem adv_go (b bm : Nat) (n at_ : Int) (L : List Ent) (w : World) (h : ScanAt w b bm n at_ L) (hok : Ok L) (hn : 0 < n) (hn2 : n ≤ 16) (ha : -1 ≤ at_) (ha2 : at_ < n) (hw : idsOf false L = []) :
    Calls Try.prog 17 #[.pointer (some ⟨b, 0, none⟩)] w fun e w' => e = .returned (.tuple #[.int .i64 ((at_ + 1) % n), .int .i64 0]) ∧ ScanAt w' b bm n ((at_ + 1) % n) (allT L) ∧ Fr (fun k => k = b ∨ k = bm) w w' := by
  have c0 := h.c0
  have HA := Lib.hid h
  have hW := waiting_at b bm n at_ L w h hok hn
  rw [hw] at hW
  have HW := Lib.hid hW
  have HO := Lib.hid hok
  have hlen := hok.len
  have hnz : (n == 0) = false := by simpa using (show n ≠ 0 by omega)
  have hn0 : ¬ n = 0 := by omega
  have hwr : IntKind.i64.wrap (at_ + 1) = at_ + 1 := IntWalk.i64_in _ ⟨by omega, by omega⟩
  have htm : (at_ + 1).tmod n = (at_ + 1) % n := Int.tmod_eq_emod_of_nonneg (by omega)
  have hm0 := Int.emod_nonneg (at_ + 1) (show n ≠ 0 by omega)
  have hm1 := Int.emod_lt_of_pos (at_ + 1) hn
  have hwm : IntKind.i64.wrap ((at_ + 1) % n) = (at_ + 1) % n := IntWalk.i64_in _ ⟨by omega, by omega⟩
  clear h hok hw hW
  go_enter Try.func17, Try.ntmps17
  go_wp2_with (first | (go_at_call 24; refine (none_at _ _ _ c0 hn).mono ?_; rintro e w' ⟨rfl, rfl⟩) | (go_at_call 20; refine HW.out.mono ?_; rintro e w1 ⟨v, rfl, hr, hb⟩; obtain ⟨A, c, rfl, _, _, _⟩ := ids_cells (l := []) hr; have HB := Lib.hid hb; clear hr hb))
  refine region_tail 13 (by kernel_rfl) (by kernel_rfl) fun wd hwd => ?_
  simp only [List.take_succ_cons, List.take_zero, List.drop_succ_cons, List.drop_zero]
  have hfr : Fr (fun k => k = b ∨ k = bm) w wd := by rw [hwd]; exact ((Fr.of_below HB.out).mono (fun _ h => h.elim)).trans (Fr.drewN _ w1 1)
  have HD : ScanAt wd b bm n at_ L := by
    rw [hwd]
    exact (show ScanAt w1 b bm n at_ L from HA.out.kept (Fr.of_below HB.out) (fun e => e) (fun e => e))
  have d0 := HD.c0
  have d1 := HD.c1
  have d2 := HD.c2
  have df := HD.f1
  have HDx := Lib.hid HD
  have hfx := Lib.hid hfr
  clear HD hfr hwd
  repeat still_step
  refine wpStill_nil ?_
  have G1 := Lib.hid (heap_setCell_at (i := 1) HDx.out.1 (.int .i64 ((at_ + 1) % n)))
  have F1 := Lib.hid (hfx.out.trans ((Fr.setCell wd ⟨b, 1, none⟩ (.int .i64 ((at_ + 1) % n))).mono (fun _ h => .inl h)))
  have hsz : (wd.setCell ⟨b, 1, none⟩ (.int .i64 ((at_ + 1) % n))).heap.size = wd.heap.size := by simp [World.setCell]
  have HZ := Lib.hid hsz
  have hown2 := Lib.hid (HDx.out.2.setCell (a := ⟨b, 1, none⟩) HDx.out.ne (.int .i64 ((at_ + 1) % n)))
  have hbd := lt_of_heap HDx.out.1
  have hmd := HDx.out.2.lt
  clear hsz
  go_wp2_with (at_range; refine wpList_range_own _ rfl _ 45 rfl 3 4 law3 Try.underlying45 _ bm L.length (mk L) rfl hown2.out ?_; intro w0 hrg0 hg0 hs0)
  rw [HZ.out] at hrg0 ⊢
  have G2 : w0.heap[b]? = some (.cells #[.int .i64 n, .int .i64 ((at_ + 1) % n), .map (some bm)] 47 (0, 0)) := (hg0.block b (by rw [HZ.out]; exact hbd) (by simp)).trans G1.out
  have F2 : Fr (fun k => k = b ∨ k = bm) w w0 := F1.out.trans ((Fr.of_below ((Below.refl _ _).grown hg0 (Nat.le_refl _) (fun k hk => by cases hk))).mono (fun _ h => h.elim))
  have hws : w.heap.size ≤ wd.heap.size := hfx.out.size
  have hrest : ∀ (P : Nat → Prop), True := fun _ => trivial
  clear hg0 hs0 hrest
  go_frame
  go_loopw [4] (fun _ wr => ∃ (left : Lit → Bool) (cnt : Nat), wr.ranges Try.prog 3 (plainElem Try.prog 4) bm wd.heap.size L.length (mk (cur L left)) left cnt ∧ Fr (fun k => k = b ∨ k = bm) w wr ∧ wr.heap[b]? = some (.cells #[.int .i64 n, .int .i64 ((at_ + 1) % n), .map (some bm)] 47 (0, 0)))
    (fun _ wr => wr.rangeLeft bm wd.heap.size)
  case atStart => exact ⟨_, _, by rw [cur_start]; exact hrg0, F2, G2⟩
  case round =>
    obtain ⟨left, cnt, hrg, hF, hG⟩ := hrel
    have e1 : wr.cell? ⟨b, 1, none⟩ = some (.int .i64 ((at_ + 1) % n)) := cell_of_heap hG rfl
    have e2 : wr.cell? ⟨b, 2, none⟩ = some (.map (some bm)) := cell_of_heap hG rfl
    have HF := Lib.hid hF
    have HG := Lib.hid hG
    clear hF hG
    go_wp2_with (at_next; refine next_ib _ rfl _ rfl bm wd.heap.size L.length _ _ _ rfl hrg ?_ ?_)
    · intro hl0
      go_wp2
      go_ret2
      have hown3 := hrg.owns
      rw [cur_end hl0] at hown3
      have hl : L.length = (allT L).length := by rw [length_allT]
      exact ⟨rfl, ⟨HG.out, by rw [← hl]; exact hown3⟩, HF.out⟩
    · intro x c w2 cnt2 hwx hlx hhas hrg2 hlt2 hg2 hen
      have hhasL : Ma.has L x = true := by rw [mk_has, cur_has] at hhas; exact hhas
      have hne := hrg.ne
      have HF2 : Fr (fun k => k = b ∨ k = bm) w w2 := by
        refine HF.out.step (Fr.of_grown hg2) (fun i hi => .inr ?_)
        have e : i = wd.heap.size := hi
        omega
      have HG2 : w2.heap[b]? = some (.cells #[.int .i64 n, .int .i64 ((at_ + 1) % n), .map (some bm)] 47 (0, 0)) := (Fr.of_grown hg2).keep HG.out (fun e => by have e' : b = wd.heap.size := e; omega)
      have q2 : w2.cell? ⟨b, 2, none⟩ = some (.map (some bm)) := cell_of_heap HG2 rfl
      have K2 := Lib.hid HG2
      have KF := Lib.hid HF2
      have hkey2 := keyOf_int_mk Try.underlying3 hwx
      clear HF2 HG2 hhas e1 e2
      go_wp2_with (at_mapUpdate; refine wpList_put_ranges _ rfl _ _ _ 45 rfl 3 4 law3 Try.underlying45 (plainElem Try.prog 4) bm wd.heap.size L.length _ _ _ rfl hrg2 _ _ _ rfl rfl hkey2 _ [] (plainElem_bool Try.underlying4 true) (by rw [mk_has, cur_has]; exact hhasL) ?_; intro w3 hrg3 hturn3; go_frame)
      rw [cur_step HO.out.rising hhasL] at hrg3
      go_roundw
      case rel =>
        have hf3 : Fr (fun k => k = bm) w2 w3 := Fr.of_grown hturn3.grown
        exact ⟨_, cnt2, hrg3, KF.out.trans (hf3.mono (fun _ h => .inr h)), hf3.keep K2.out (fun e => HDx.out.ne e.symm)⟩
      case measure => rw [hrg3.left_eq, hrg.left_eq]; exact hlt2
end Go.Proofs.Ytfmicncpaaioaaa.Sc
