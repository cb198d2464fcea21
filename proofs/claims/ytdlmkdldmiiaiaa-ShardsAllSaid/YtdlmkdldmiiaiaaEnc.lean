/- What gaps.Encode tells of any list that rises: its iterator over the gaps, the builder that is written by its rounds. Conditions: what Put tells of numbers from 0 on, and what Check tells of the list, are handed in as contracts; the list lies readable. -/
import Derived.RangeFuncNested
import Derived.RangeFuncBound
import Derived.RangeFuncCalls
import Derived.RangeFuncLeaves
import Derived.RangeFuncBox
import Derived.Shelf.Abstract
import Derived.Shelf.RegionOpen
import Derived.CallsIn
import Derived.WalkKit
import Derived.OwnWalkIn
import Derived.TacticsInMore
import Derived.LoopNIn
import Derived.LoopIn
import Derived.Shelf.Strings.BuilderK
import Derived.Test.YtdlmkdldmiiaiaaPck
namespace Go.Proofs.Ytdlmkdldmiiaiaa.Enc
open Go.RowKit Go.Shelf
open Go.Proofs.Ytdlmkdldmiiaiaa.Ma Go.Proofs.Ytdlmkdldmiiaiaa.By Go.Proofs.Ytdlmkdldmiiaiaa.E
set_option linter.unusedVariables false
set_option linter.unusedSimpArgs false
attribute [local go_sem] Oper.semAt_some

def Drawn0 (w w' : World) : Prop := ∃ m, w' = w.drewN m
theorem Drawn0.below {w w' : World} (h : Drawn0 w w') : Below w.heap.size w w' := by
  obtain ⟨m, rfl⟩ := h
  exact below_drewNg w m
theorem grown_of_below {w w' : World} (h : Below w.heap.size w w') (r : Option Nat) : w.grownBy w' r := ⟨h.os, h.tape, h.output, h.size, fun k hk _ => h.block k hk⟩
/-- A gap. -/
abbrev Gap := { x : Int // 0 ≤ x ∧ x ≤ 9223372036854775807 }
def upto {α : Type} (f : Nat → α) (k : Nat) : List α := (List.range k).map f
theorem upto_succ {α : Type} (f : Nat → α) (k : Nat) : upto f (k + 1) = upto f k ++ [f k] := by simp [upto, List.range_succ]
theorem upto_length {α : Type} (f : Nat → α) (k : Nat) : (upto f k).length = k := by simp [upto]
def nextW (zs : List Int) : Nat → Int
  | 0 => 0
  | k + 1 => wrap64 (zs[k]?.getD 0 + 1)

set_option maxRecDepth 100000 in
set_option maxHeartbeats 2000000 in
theorem betw1_in (F : Fence) (n : Nat) (h28 : F.fn 95) (hro : F.round = none) (hn : 1 ≤ n) (l Bs n₀ len cap : Nat) (ad : Addr) (zs : List Int) (hreach : len ≤ 140737488355328) (f : Nat → Gap) (hf : ∀ k, k < len → (f k).1 = wrap64 (zs[k]?.getD 0 - nextW zs k)) (J Jx : List Gap → World → Prop)
    (hY : ∀ pre (x : Gap) W, J pre W → pre.length < len → YieldAt F (n - 1) Try.prog l #[.int .i64 x.1] W fun e W' =>
      (e = .returned (.bool true) ∧ J (pre ++ [x]) W' ∧ Below n₀ W W') ∨ (e = .returned (.bool false) ∧ Jx (pre ++ [x]) W'))
    (W : World) (hBs : W.cell? ⟨Bs, 0, none⟩ = some (.slice (some ad) len cap)) (hb : ∀ j, j < len → (ad.add j).block < n₀) (hc : ∀ j, j < len → W.cell? (ad.add j) = some (.int .i64 (zs[j]?.getD 0))) (h0 : J [] W) :
    CallsIn F n Try.prog 95 #[.func (.yield l) #[] #[], .pointer (some ⟨Bs, 0, none⟩)] W fun e W' => (∃ v, e = .returned v) ∧
      ((∃ ys, ys = upto f len ∧ J ys W') ∨ (∃ pre, (∃ k, k ≤ len ∧ pre = upto f k) ∧ Jx pre W')) := by
  refine callsIn_of_wp Try.func95 rfl h28 ?_ hro
  simp only [Try.ntmps95, List.size_toArray, List.length_cons, List.length_nil, Nat.reduceAdd, Nat.reduceSub, Array.replicate_succ, Array.replicate_zero, List.push_toArray, List.append_toArray, List.nil_append, List.cons_append]
  gi_wp2
  gi_loopw [3, 8] (fun nx i wr => ∃ k : Nat, k ≤ len ∧ nx = .int .i64 (nextW zs k) ∧ i = .int .i64 k ∧ J (upto f k) wr ∧ Below n₀ W wr)
    (fun _ i _ => len - (intOf i).toNat)
  case atStart => exact ⟨0, Nat.zero_le _, rfl, rfl, h0, Below.refl _ _⟩
  case round =>
    obtain ⟨k, hk, rfl, rfl, hJs, hnx⟩ := hrel
    have hcx : k < len → wr.cell? (ad.add k) = some (.int .i64 (zs[k]?.getD 0)) := fun h => (hnx.cell (p := ad.add k) (hb k h)).trans (hc k h)
    by_cases hlt : k < len
    · have hY' := hY _ (f k) wr hJs (by rw [upto_length]; exact hlt)
      rw [hf k hlt] at hY'
      obtain ⟨fn, tmps, assign, body, hy, hR⟩ := hY'
      have hcx' := hcx hlt
      gi_wp2
      refine hR.mono ?_
      rintro e W3 (⟨rfl, hJ3, hk3⟩ | ⟨rfl, hJx3⟩)
      · gi_wp2
        go_roundw
        case rel => exact ⟨k + 1, by omega, rfl, by simp, by rw [upto_succ]; exact hJ3, hnx.trans hk3⟩
        case measure => simp [intOf]; omega
      · gi_wp2
        refine bodyPost_ret (results_none rfl _ _ _) rfl ?_
        exact ⟨⟨_, rfl⟩, .inr ⟨_, ⟨k + 1, by omega, (upto_succ _ _).symm⟩, hJx3⟩⟩
    · obtain rfl : k = len := by omega
      gi_wp2
      go_end0
      exact ⟨⟨_, rfl⟩, .inl ⟨_, rfl, hJs⟩⟩

set_option maxRecDepth 100000 in
set_option maxHeartbeats 1000000 in
theorem betw1_nil_in (F : Fence) (n : Nat) (h28 : F.fn 95) (hro : F.round = none) (l Bs cap : Nat) (A : Option Addr) (J : List Gap → World → Prop) (W : World) (hBs : W.cell? ⟨Bs, 0, none⟩ = some (.slice A 0 cap)) (h0 : J [] W) :
    CallsIn F n Try.prog 95 #[.func (.yield l) #[] #[], .pointer (some ⟨Bs, 0, none⟩)] W fun e W' => (∃ v, e = .returned v) ∧ J [] W' := by
  refine callsIn_of_wp Try.func95 rfl h28 ?_ hro
  simp only [Try.ntmps95, List.size_toArray, List.length_cons, List.length_nil, Nat.reduceAdd, Nat.reduceSub, Array.replicate_succ, Array.replicate_zero, List.push_toArray, List.append_toArray, List.nil_append, List.cons_append]
  gi_wp2
  gi_loopw [3, 8] (fun nx i wr => nx = .int .i64 0 ∧ i = .int .i64 0 ∧ J [] wr) (fun _ _ _ => 0)
  case atStart => exact ⟨rfl, rfl, h0⟩
  case round =>
    obtain ⟨rfl, rfl, hJs⟩ := hrel
    gi_wp2
    go_end0
    exact ⟨⟨_, rfl⟩, hJs⟩

set_option maxHeartbeats 1000000 in
theorem between_in (F : Fence) (n : Nat) (h21 : F.fn 66) (hro : F.round = none) (a : Option Addr) (len cap : Nat) (w : World) :
    CallsIn F n Try.prog 66 #[.slice a len cap] w fun e w' => e = .returned (.func (.func 95) #[] #[.pointer (some ⟨w.heap.size, 0, none⟩)]) ∧ w' = w.alloc (.cells #[.slice a len cap] 62) := by
  refine callsIn_of_wp Try.func66 rfl h21 ?_ hro
  simp only [Try.ntmps66, List.size_toArray, List.length_cons, List.length_nil, Nat.reduceAdd, Nat.reduceSub, Array.replicate_succ, Array.replicate_zero, List.push_toArray, List.append_toArray, List.nil_append, List.cons_append]
  gi_wp2
  go_ret
  exact ⟨rfl, rfl⟩

theorem upto_prefix {α : Type} (f : Nat → α) {k m : Nat} (h : k ≤ m) : upto f k <+: upto f m := by
  obtain ⟨d, rfl⟩ := Nat.exists_eq_add_of_le h
  refine ⟨(List.range d).map (fun i => f (k + i)), ?_⟩
  simp [upto, List.range_add, List.map_append, List.map_map, Function.comp_def]

/-- between(l) hands back a value that tells the gaps, all of them in order, or a part. -/
theorem between_stops (F : Fence) (n : Nat) (h28 : F.fn 95) (hro : F.round = none) (hn : 1 ≤ n) (Bs n₀ len cap : Nat) (A : Option Addr) (zs : List Int) (hreach : len ≤ 140737488355328) (f : Nat → Gap) (hf : ∀ k, k < len → (f k).1 = wrap64 (zs[k]?.getD 0 - nextW zs k)) (w : World) (hBs : Bs < w.heap.size) (hn₀ : n₀ ≤ w.heap.size)
    (hc : w.cell? ⟨Bs, 0, none⟩ = some (.slice A len cap)) (hI : ∀ j, j < len → ∃ ad, A = some ad ∧ (ad.add j).block < n₀ ∧ w.cell? (ad.add j) = some (.int .i64 (zs[j]?.getD 0))) :
    SeqStopsK F n Try.prog 95 #[.pointer (some ⟨Bs, 0, none⟩)] (fun x : Gap => #[Value.int .i64 x.1]) (Below n₀) (fun ys => ys = upto f len) (fun pre => pre <+: upto f len) len w := fun l J Jx W hW _ _ hY h0 => by
  have hc' := (hW.cell (p := ⟨Bs, 0, none⟩) hBs).trans hc
  by_cases hlen : len = 0
  · subst hlen
    exact (betw1_nil_in F n h28 hro l Bs cap A J W hc' h0).mono fun e W' ⟨he, hj⟩ => ⟨he, .inl ⟨_, rfl, hj⟩⟩
  · obtain ⟨ad, rfl, _, _⟩ := hI 0 (by omega)
    have hb : ∀ j, j < len → (ad.add j).block < n₀ := fun j hj => by
      obtain ⟨ad', e, h, _⟩ := hI j hj
      cases e; exact h
    have hcs : ∀ j, j < len → W.cell? (ad.add j) = some (.int .i64 (zs[j]?.getD 0)) := fun j hj => by
      obtain ⟨ad', e, h, h2⟩ := hI j hj
      cases e
      exact (hW.cell (p := ad.add j) (by omega)).trans h2
    refine (betw1_in F n h28 hro hn l Bs n₀ len cap ad zs hreach f hf J Jx hY W hc' hb hcs h0).mono ?_
    rintro e W' ⟨he, ⟨ys, rfl, hj⟩ | ⟨pre, ⟨k, hk, rfl⟩, hj⟩⟩
    · exact ⟨he, .inl ⟨_, rfl, hj⟩⟩
    · exact ⟨he, .inr ⟨_, upto_prefix f hk, hj⟩⟩

theorem builder_moved {T e B b : Nat} {bs : List Value} {w w' : World} (h : Lib.IsBuilderF T e B b bs w) (hb : Below w.heap.size w w') : Lib.IsBuilderF T e B b bs w' := by
  have key : ∀ p, Lib.BuilderAtF T e B b p bs w → Lib.BuilderAtF T e B b p bs w' := by
    rintro p ⟨hB, v, hh, hown, hne⟩
    exact ⟨hB, v, (hb.block b (Array.getElem?_eq_some_iff.1 hh).1).trans hh, hown.kept (grown_of_below hb none) (by cases h : v.ownBlock <;> simp), hne⟩
  exact h.elim (fun x => .inl (key _ x)) (fun x => .inr (key _ x))
theorem builder_own {β : Type} {T e B b D : Nat} {f : β → List Value} (hD : b < D) : OwnFrom D (fun s W => Lib.IsBuilderF T e B b (f s) W) := by
  intro s W W' row hs hg hr
  have key : ∀ p, Lib.BuilderAtF T e B b p (f s) W → Lib.BuilderAtF T e B b p (f s) W' := by
    rintro p ⟨hB, v, hh, hown, hne⟩
    refine ⟨hB, v, (hg.block b (Array.getElem?_eq_some_iff.1 hh).1 ?_).trans hh, hown.kept hg ?_, hne⟩
    · intro e'
      have := (hr b e'.symm).1
      omega
    · cases hv : v.ownBlock with
      | none => exact .inl rfl
      | some g =>
        refine .inr fun e' => ?_
        obtain ⟨_, o, ho, hoc⟩ := hr g e'.symm
        obtain ⟨cc, fz, hgc⟩ := Lib.ownsRowF_kind hown g hv
        rw [hgc] at ho
        cases ho
        simp [Obj.isCells] at hoc
  exact hs.elim (fun x => .inl (key _ x)) (fun x => .inr (key _ x))
theorem keeps_of_others {e : TypeId} {b : Nat} {w w' : World} (h : Lib.OthersKept e (some b) w w') {c : Nat} {cs : Array Value} {T : TypeId} {fz : Nat × Nat} (hb : w.heap[b]? = some (.cells cs T fz)) :
    ∀ (i : Nat) (o : Obj), w.heap[i]? = some o → o.isCells = false → w'.heap[i]? = some o := by
  intro i o hi ho
  refine h i o hi ?_ ?_
  · intro e'
    cases e'
    rw [hb] at hi
    cases hi
    simp [Obj.isCells] at ho
  · rintro c' fz' rfl
    simp [Obj.isCells] at ho
theorem bw (B b : Nat) (bs : List Value) (s : ByteArray) (w : World) (h : Lib.IsBuilderF 75 5 B b bs w) (hlen : bs.length + s.size ≤ 140737488355328) (hBw : B ≤ w.heap.size) :
    Calls Try.prog 36 #[.pointer (some ⟨b, 0, none⟩), .string s] w fun e w' => e = .returned (.tuple #[.int .i64 s.size, .nilIface]) ∧ (Lib.BuilderAtF 75 5 B b (.pointer (some ⟨b, 0, none⟩)) (bs ++ Lib.strCells s) w' ∧ Below B w w' ∧ Lib.OthersKept 5 (some b) w w') := Any.Builder_WriteString_k Try.lays166 Try.Builder_Extra_166 B b bs s w h hlen hBw
theorem bstr (B b : Nat) (l : List UInt8) (w : World) (h : Lib.IsBuilderF 75 5 B b (Lib.byteCells l) w) (hBw : B ≤ w.heap.size) :
    Calls Try.prog 41 #[.pointer (some ⟨b, 0, none⟩)] w fun e w' => e = .returned (.string ⟨l.toArray⟩) ∧ (Lib.IsBuilderF 75 5 B b (Lib.byteCells l) w' ∧ Below B w w' ∧ Lib.OthersKept 5 (some b) w w') := Any.Builder_String_any_k Try.lays169 Try.Builder_Extra_169 B b l w h hBw
theorem fresh_builder (w : World) : Lib.IsBuilderF 75 5 w.heap.size w.heap.size [] (w.alloc (.cells #[.pointer none, .slice none 0 0] 75)) :=
  .inl ⟨Nat.le_refl _, .slice none 0 0, World.alloc_heap_new w _, World.ownsRowF_nil _ _ _ _, by simp [Value.ownBlock]⟩
/-- The bytes that are told: how many, then the gaps. -/
def bytesL (P : Nat → ByteArray) (many : Nat) (pre : List Gap) : List UInt8 := (P many).data.toList ++ pre.flatMap fun x => (P x.1.toNat).data.toList
theorem bytesL_length (P : Nat → ByteArray) (hP : ∀ n, (P n).size ≤ 10) (many : Nat) (pre : List Gap) : (bytesL P many pre).length ≤ 10 * (pre.length + 1) := by
  unfold bytesL
  rw [List.length_append, data_len]
  have : (pre.flatMap fun x => (P x.1.toNat).data.toList).length ≤ 10 * pre.length := by
    induction pre with
    | nil => simp
    | cons x pre ih =>
      rw [List.flatMap_cons, List.length_append, data_len, List.length_cons]
      have := hP x.1.toNat
      omega
  have := hP many
  omega
theorem bytesL_snoc (P : Nat → ByteArray) (many : Nat) (pre : List Gap) (x : Gap) : Lib.byteCells (bytesL P many (pre ++ [x])) = Lib.byteCells (bytesL P many pre) ++ Lib.strCells (P x.1.toNat) := by
  simp [bytesL, Lib.byteCells, Lib.strCells]
theorem keepsOthers_below {W W' : World} (h : Below W.heap.size W W') : KeepsOthers W W' := ⟨h.size, fun k o hk _ => (h.block k (Array.getElem?_eq_some_iff.1 hk).1).trans hk⟩
theorem builder_block {T e B b : Nat} {bs : List Value} {w : World} (h : Lib.IsBuilderF T e B b bs w) : ∃ cs, w.heap[b]? = some (.cells cs T (0, 0)) := by
  rcases h with ⟨_, v, hh, _⟩ | ⟨_, v, hh, _⟩ <;> exact ⟨_, hh⟩
theorem keepsOthers_builder {T e B b : Nat} {bs : List Value} {w w' : World} (h : Lib.IsBuilderF T e B b bs w) (hb : Below B w w') (ho : Lib.OthersKept e (some b) w w') : KeepsOthers w w' := by
  obtain ⟨cs, hh⟩ := builder_block h
  exact ⟨hb.size, keeps_of_others (c := 0) ho hh⟩
set_option maxRecDepth 100000 in
set_option maxHeartbeats 2000000 in
theorem encode_in (P : Nat → ByteArray) (hP : ∀ n, (P n).size ≤ 10) (A : Option Addr) (c : Nat) (zs : List Int) (w : World) (hc0 : zs.length ≤ c) (hreach : zs.length ≤ 1000000000) (f : Nat → Gap) (hf : ∀ k, k < zs.length → (f k).1 = wrap64 (zs[k]?.getD 0 - nextW zs k))
    (hI : ∀ j, j < zs.length → ∃ ad, A = some ad ∧ (ad.add j).block < w.heap.size ∧ w.cell? (ad.add j) = some (.int .i64 (zs[j]?.getD 0)))
    (hcheck : Calls Try.prog 65 #[.slice A zs.length c] w fun e w' => e = .returned (.int .i64 0) ∧ Drawn0 w w')
    (hput : ∀ (x : Gap) (W : World), Calls Try.prog 40 #[.int .i64 x.1] W fun e w' => e = .returned (.string (P x.1.toNat)) ∧ Below W.heap.size W w') :
    CallsIn Fence.wide 5 Try.prog 35 #[.slice A zs.length c] w fun e w' => e = .returned (.tuple #[.string ⟨(bytesL P zs.length (upto f zs.length)).toArray⟩, .int .i64 0]) ∧ Below w.heap.size w w' := by
  refine callsIn_of_wp_marks Try.func35 rfl trivial ?_ rfl
  simp only [Try.ntmps35, List.size_toArray, List.length_cons, List.length_nil, Nat.reduceAdd, Nat.reduceSub, Array.replicate_succ, Array.replicate_zero, List.push_toArray, List.append_toArray, List.nil_append, List.cons_append]
  have hlenP := hP zs.length
  gi_wp2_with (first | (refine ⟨trivial, ?_⟩; gi_at_call 65; refine (callsIn_wide.2 hcheck).mono ?_; rintro e w1 ⟨rfl, hd⟩; have hB1 := Lib.hid hd.below; have hs1 := Lib.hid (show w1.heap.size = w.heap.size by obtain ⟨m, rfl⟩ := hd; rfl); clear hd) | (refine ⟨trivial, ?_⟩; gi_at_call 40; refine (callsIn_wide.2 (hput ⟨(zs.length : Int), by omega, by omega⟩ _)).mono ?_; rintro e w2 ⟨rfl, hb2⟩; have hB2 := Lib.hid hb2; clear hb2) | (refine ⟨trivial, ?_⟩; gi_at_call 36; refine (callsIn_wide.2 (bw w1.heap.size w1.heap.size [] _ _ (builder_moved (fresh_builder w1) hB2.out) (by simp only [List.length_nil]; omega) (by have := hB2.out.size; simp at this; omega))).mono ?_; rintro e w3 ⟨rfl, hb3, hb3', hb3''⟩; have hB3 := Lib.hid hb3; have hB3' := Lib.hid hb3'; clear hb3 hb3' hb3'') | (refine ⟨trivial, ?_⟩; gi_at_call 66; refine (between_in Fence.wide _ trivial rfl _ _ _ _).mono ?_; rintro e w4 ⟨rfl, rfl⟩))
  have z3 : w1.heap.size < w3.heap.size := by have a := hB2.out.size; have b := hB3'.out.size; simp at a; omega
  have hB13 : Below w1.heap.size w1 w3 := (((Below.refl _ w1).alloc (Nat.le_refl _) _).trans ((hB2.out).mono (by simp))).trans hB3'.out
  have hcells : ∀ j, j < zs.length → ∃ ad, A = some ad ∧ (ad.add j).block < w1.heap.size ∧ (w3.alloc (.cells #[Value.slice A zs.length c] 62)).cell? (ad.add j) = some (.int .i64 (zs[j]?.getD 0)) := by
    intro j hj
    obtain ⟨ad, e, hb, hcl⟩ := hI j hj
    refine ⟨ad, e, by rw [hs1.out]; exact hb, ?_⟩
    have hB : Below w.heap.size w (w3.alloc (.cells #[Value.slice A zs.length c] 62)) := (hB1.out.trans ((by rw [← hs1.out]; exact hB13 : Below w.heap.size w1 w3))).alloc (by have := hs1.out; omega) _
    exact (hB.cell (p := ad.add j) hb).trans hcl
  have hbox : (w3.alloc (.cells #[Value.slice A zs.length c] 62)).cell? ⟨w3.heap.size, 0, none⟩ = some (.slice A zs.length c) := (Boxed.new w3 62 (.slice A zs.length c)).cell
  have hcell0 := hB3.out
  refine wpIn_rangeFunc_ownF rfl (by omega) (gf := 95) (lb := #[.pointer (some ⟨w3.heap.size, 0, none⟩)]) rfl trivial (enters_of Try.func95 (by kernel_rfl) rfl)
    (between_stops Fence.wide 4 trivial rfl (by omega) w3.heap.size w1.heap.size zs.length c A zs (by omega) f hf (w3.alloc (.cells #[Value.slice A zs.length c] 62)) (by simp) (by simp; omega) hbox hcells) belowK_t (belowK_b (by simp; omega)) (Below.refl _ _) (fun _ => rfl)
    (fun pre W => Lib.IsBuilderF 75 5 w1.heap.size w1.heap.size (Lib.byteCells (bytesL P zs.length pre)) W ∧ Below w1.heap.size w1 W)
    (fun _ _ _ => False)
    (OwnFrom.and (builder_own (by simp; omega)) (ownFrom_below (Nat.le_refl _) (by simp; omega)))
    (fun _ _ _ _ _ hs _ _ => hs)
    ⟨Lib.IsBuilderF.alloc (.inr (by simpa [bytesL, Lib.byteCells, Lib.strCells] using hcell0)) _, hB13.alloc (by omega) _⟩
    (fun x => { tmps := #[Value.slice A zs.length c, undef, Value.string { data := #[] }, Value.int IntKind.i64 0,
          Value.int IntKind.i64 0, Value.pointer (some { block := w1.heap.size, off := 0 }), .int .i64 x.1,
          Value.slice A zs.length c, Value.int IntKind.i64 0, Value.int IntKind.i64 0, Value.bool false, undef,
          Value.slice A zs.length c, Value.int IntKind.i64 ↑zs.length, Value.string (P zs.length),
          Value.tuple #[Value.int IntKind.i64 ↑(P zs.length).size, Value.nilIface], Value.slice A zs.length c,
          Value.func (Fn.func 95) #[] #[Value.pointer (some { block := w3.heap.size, off := 0 })], .int .i64 x.1, undef, undef,
          undef, undef], defers := [] }) ?assign ?body ?done ?stop
  case assign =>
    intro l x W K hK
    gi_wp2
    exact hK
  case body =>
    rintro l pre x W ⟨hbld, hBW⟩ hpre
    have hbl := Lib.hid hbld
    have hBx := Lib.hid hBW
    have hl := bytesL_length P hP zs.length pre
    have hPx := hP x.1.toNat
    clear hbld hBW
    gi_wp2_with (first | (refine ⟨trivial, ?_⟩; gi_at_call 40; refine (CallsIn.inRound l (callsIn_wide.2 (hput x _))).mono ?_; rintro e w5 ⟨rfl, hb5⟩; have hB5 := Lib.hid hb5; clear hb5) | (refine ⟨trivial, ?_⟩; gi_at_call 36; refine (CallsIn.inRound l (callsIn_wide.2 (bw w1.heap.size w1.heap.size _ _ _ (builder_moved hbl.out hB5.out) (by rw [Lib.byteCells_length]; omega) (by have := hB5.out.size; have := hBx.out.size; omega)))).mono ?_; rintro e w6 ⟨rfl, hb6, hb6', hb6''⟩; have hB6 := Lib.hid hb6; have hB6' := Lib.hid hb6'; have hB6'' := Lib.hid hb6''; clear hb6 hb6' hb6''))
    have hW6 : Below w1.heap.size W w6 := ((hB5.out).mono (hBx.out.size)).trans hB6'.out
    exact ⟨(keepsOthers_below hB5.out).trans (keepsOthers_builder (builder_moved hbl.out hB5.out) hB6'.out hB6''.out), hW6, .inr (by rw [bytesL_snoc]; exact hB6.out), hBx.out.trans hW6⟩
  case done =>
    rintro D ys W hD rfl ⟨hbld, hBW⟩ hK
    have hbl := Lib.hid hbld
    have hBx := Lib.hid hBW
    have hKx := Lib.hid hK
    clear hbld hBW hK
    gi_wp2_with (refine ⟨trivial, ?_⟩; gi_at_call 41; refine (callsIn_wide.2 (bstr w1.heap.size w1.heap.size _ _ hbl.out hBx.out.size)).mono ?_; rintro e w7 ⟨rfl, hb7, hb7', hb7''⟩; have hB7 := Lib.hid hb7; have hB7' := Lib.hid hb7'; have hB7'' := Lib.hid hb7''; clear hb7 hb7' hb7'')
    have hK' : w7.heap[D]? = some (.deferred (some [])) := (keepsOthers_builder hbl.out hB7'.out hB7''.out).same D _ hKx.out rfl
    refine ⟨by simp, .inl ⟨_, _, rfl, run_takeDeferred hK', ?_⟩⟩
    refine ⟨_, results_tmp2 rfl _ _ _, rfl, ?_⟩
    have hfin := (hBx.out.trans hB7'.out).trans (belowK_b (w := w1) (Nat.le_refl _) w7 D (.deferred (some [])) (.deferred none) (by simp at hD; omega) hK' rfl rfl)
    rw [hs1.out] at hfin
    exact hB1.out.trans hfin
  case stop =>
    rintro D c pre W _ _ h _
    exact h.elim
set_option maxRecDepth 100000 in
/-- Where Check refuses, so does Encode. -/
theorem encode_bad_in (A : Option Addr) (c n : Nat) (t : Int) (ht : t ≠ 0) (w : World) (hcheck : Calls Try.prog 65 #[.slice A n c] w fun e w' => e = .returned (.int .i64 t) ∧ Drawn0 w w') :
    CallsIn Fence.wide 5 Try.prog 35 #[.slice A n c] w fun e w' => e = .returned (.tuple #[.string (⟨#[]⟩ : ByteArray), .int .i64 t]) ∧ Below w.heap.size w w' := by
  refine callsIn_of_wp Try.func35 rfl trivial ?_ rfl
  simp only [Try.ntmps35, List.size_toArray, List.length_cons, List.length_nil, Nat.reduceAdd, Nat.reduceSub, Array.replicate_succ, Array.replicate_zero, List.push_toArray, List.append_toArray, List.nil_append, List.cons_append]
  have h0 : (t == 0) = false := by simpa using ht
  have h1 : (t != 0) = true := by simpa using ht
  gi_wp2_with (refine ⟨trivial, ?_⟩; gi_at_call 65; refine (callsIn_wide.2 hcheck).mono ?_; rintro e w1 ⟨rfl, hd⟩; have hB1 := Lib.hid hd.below; clear hd)
  go_ret2
  exact ⟨rfl, hB1.out⟩
end Go.Proofs.Ytdlmkdldmiiaiaa.Enc
