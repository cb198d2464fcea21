/- The document's scan takes one more, at its place. Conditions: those that each theorem names. -/
import Derived.Test.YtfmicncpaaioaaaRefE
namespace Go.Proofs.Ytfmicncpaaioaaa.Sc
open Go.RowKit Go.Maps Go.Sort Go.Shelf
open Go.Proofs.Ytfmicncpaaioaaa.Ma
set_option linter.unusedVariables false
set_option linter.unusedSimpArgs false
theorem info59 : (Try.prog.info? 59).map (fun i => (i.zero, i.size, i.bytes)) = some (some (.agg #[.int .i64 0, .bool false]), 2, 16) := by kernel_rfl
theorem RefAt.store {B : Nat} {w w1 : World} {rb : Nat} {n a : Int} {L L' : List Ent} {v v' : Value} (h : RefAt B w rb n a L v) (hf : Fr (fun _ => False) w w1) (hrow : w1.ownsRow w.heap.size 59 2 v' L'.length (cellsOf L')) (hB : B ≤ w.heap.size) :
    RefAt B (w1.setCell ⟨rb, 2, none⟩ v') rb n a L' v' ∧ Fr (fun k => k = rb) w (w1.setCell ⟨rb, 2, none⟩ v') := by
  have h1 := hf.keep h.1 (fun e => e)
  have hlt := lt_of_heap h.1
  refine ⟨⟨by rw [heap_setCell_at h1]; rfl, (Fr.setCell w1 ⟨rb, 2, none⟩ v').row (ownsRow_base_a (base' := B) hrow hB) (fun g hg e => ?_)⟩, (hf.mono (fun _ h => h.elim)).trans (Fr.setCell w1 ⟨rb, 2, none⟩ v')⟩
  have := (hrow.lt g hg).1
  have e' : g = rb := e
  omega
theorem wpList_append_none {P : Program} (w : World) {ops : Array Oper} {rest : List Oper} {o : Oper} {a : Act} {Q : Exit → Act → World → Prop} (hgd : o.guard = none) (s x : Operand) (t : TypeId)
    (ho : o.op = .call { callee := .builtin .append, args := #[s, x], argTypes := #[t, t] })
    (base : Nat) (e : TypeId) (i : TypeInfo) (size : Nat) (ht : P.underlying t = some (.slice e)) (hi : P.info? e = some i)
    (v : Value) (n : Nat) (xs : List Value) (hs : a.eval s = v) (hown : w.ownsRow base e size v n xs) (hx : a.eval x = .slice none 0 0) (hsz : i.size = size)
    (h : wpList P ops Q rest (a.put o.dst v) w) : wpList P ops Q (o :: rest) a w := by
  refine wpList_plain hgd fun K hK => ?_
  have hr := run_append_owned_none (P := P) w base t o.type e i size ht hi v n xs hown
  unfold Oper.wp execOp
  simp only [ho, resolve, invoke, builtin, Sem.run_bind, Sem.run_pure, Result.andThen_ok, List.map_toArray, List.map_cons, List.map_nil, hs, hx, hr]
  exact hK _ _ h
/-- Nobody is there yet. -/
theorem rattach_nil (B rb : Nat) (n a id : Int) (w : World) (h : RefAt B w rb n a [] (.slice none 0 0)) (hB : B ≤ w.heap.size) :
    Calls Try.prog 12 #[.pointer (some ⟨rb, 0, none⟩), .int .i64 id] w fun e w' => e = .returned (.int .i64 0) ∧ ∃ v', RefAt B w' rb n a [(id, false)] v' ∧ Fr (fun k => k = rb) w w' := by
  have hplc := place_at B rb n a id [] _ w h
  rw [show plc [] id = -1 from rfl] at hplc
  have HP := Lib.hid hplc
  have HR := Lib.hid h
  have c2 := h.c2
  have f2 := h.f2
  have hrb := lt_of_heap h.1
  clear h hplc
  obtain ⟨i0, hi, hz0, hz1, hz2⟩ := info_parts info59
  have hrow := World.ownsRow_nil w w.heap.size 59 2
  go_enter Try.func12, Try.ntmps12
  go_wp2_with (go_at_call 25; refine HP.out.mono ?_; rintro e w' ⟨rfl, rfl⟩)
  go_loop [5, 6] (fun s i => s = .slice none 0 0 ∧ i = .int .i64 0) (fun _ _ => 0)
  case atStart => exact ⟨rfl, rfl⟩
  case round =>
    obtain ⟨rfl, rfl⟩ := hrel
    go_wp2_with (first
      | (at_builtin; refine wpList_append_own_at _ rfl _ _ 39 rfl w.heap.size 59 i0 _ 2 16 Try.underlying39 hi hz0 hz1 hz2 rfl (by omega) (.slice none 0 0) 0 [] rfl (World.ownsRow_nil _ _ _ _) ⟨w.heap.size, 0, none⟩ 1 1 [.int .i64 id, .bool false] rfl rfl (World.news_of_block (heap_alloc_new w _)) (by simp [Value.oneCell']) (by unfold maxLen; omega) (by omega) (by simp) ?_; intro va wa howna hgrowa hnila hloca; obtain ⟨A', c', rfl, hc1, hc2, _, _⟩ := row_cells (L := [(id, false)]) howna; simp only [List.length_cons, List.length_nil] at hc1; have hba := ((Below.refl w.heap.size w).alloc (Nat.le_refl _) _).grown hgrowa (by simp) (fun k hk => by simp [Value.ownBlock] at hk); have k2 := (hba.cell (p := ⟨rb, 2, none⟩) hrb).trans c2; have kf := (hba.frozen (p := ⟨rb, 2, none⟩) hrb).trans f2; have HOa := Lib.hid howna; have HBa := Lib.hid hba; clear hgrowa hnila hloca howna hba)
      | (at_builtin; refine wpList_append_none _ rfl _ _ 39 rfl w.heap.size 59 i0 2 Try.underlying39 hi (.slice A' 1 c') (0 + 1) ([] ++ [.int .i64 id, .bool false]) rfl HOa.out rfl hz1 ?_))
    go_ret
    have hrow2 : wa.ownsRow w.heap.size 59 2 (.slice A' 1 c') ([(id, false)] : List Ent).length (cellsOf [(id, false)]) := HOa.out
    obtain ⟨s1, s2⟩ := HR.out.store (Fr.of_below HBa.out) hrow2 hB
    exact ⟨rfl, ⟨_, s1⟩, s2⟩
end Go.Proofs.Ytfmicncpaaioaaa.Sc
