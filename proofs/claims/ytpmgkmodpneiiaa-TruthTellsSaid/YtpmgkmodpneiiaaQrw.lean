/- Rows that may lie behind an offset: a queue of numbers. Conditions: those that each theorem names. -/
import Derived.Test.YtpmgkmodpneiiaaGrd
import Derived.Deep.AppendSrc
namespace Go.Proofs.Ytpmgkmodpneiiaa.E
open Go.RowKit Go.Sort Go.Shelf
open Go.Proofs.Ytpmgkmodpneiiaa.Ma
set_option linter.unusedVariables false
set_option linter.unusedSimpArgs false
theorem info3' : (Try.prog.info? 3).map (fun i => (i.zero, i.size, i.bytes)) = some (some (.int .i64 0), 1, 8) := by kernel_rfl
def QL (B : Nat) (w : World) (g o c : Nat) (q : List Nat) : Prop :=
  B ≤ g ∧ ∃ cur : Array Value, w.heap[g]? = some (.cells cur 3 (0, 0)) ∧ q.length ≤ c ∧ c ≤ 9223372036854775807 ∧ o + c ≤ cur.size ∧ ∀ (j x : Nat), q[j]? = some x → cur[o + j]? = some (.int .i64 (x : Int))
theorem QL.cell {B : Nat} {w : World} {g o c : Nat} {q : List Nat} (h : QL B w g o c q) {j : Nat} {x : Nat} (hx : q[j]? = some x) : w.cell? ⟨g, o + j, none⟩ = some (.int .i64 (x : Int)) := by
  obtain ⟨_, cur, hg, _, _, _, hc⟩ := h
  exact cell_of_heap hg (hc j x hx)
theorem QL.tail {B : Nat} {w : World} {g o c : Nat} {x : Nat} {q : List Nat} (h : QL B w g o c (x :: q)) : QL B w g (o + 1) (c - 1) q := by
  obtain ⟨hB, cur, hg, h1, h2, h3, hc⟩ := h
  simp at h1
  refine ⟨hB, cur, hg, by omega, by omega, by omega, fun j y hy => ?_⟩
  have := hc (j + 1) y (by simpa using hy)
  rw [show o + 1 + j = o + (j + 1) by omega]
  exact this
theorem QL.fr {S : Nat → Prop} {B : Nat} {w w' : World} {g o c : Nat} {q : List Nat} (h : QL B w g o c q) (hf : Fr S w w') (hS : ¬ S g) : QL B w' g o c q := by
  obtain ⟨hB, cur, hg, h1, h2, h3, hc⟩ := h
  exact ⟨hB, cur, hf.keep hg hS, h1, h2, h3, hc⟩
theorem QL.lt {B : Nat} {w : World} {g o c : Nat} {q : List Nat} (h : QL B w g o c q) : g < w.heap.size := by
  obtain ⟨hB, cur, hg, _⟩ := h
  exact lt_of_heap hg
theorem QL.caps {B : Nat} {w : World} {g o c : Nat} {q : List Nat} (h : QL B w g o c q) : q.length ≤ c ∧ c ≤ 9223372036854775807 := by
  obtain ⟨hB, cur, hg, h1, h2, _⟩ := h
  exact ⟨h1, h2⟩
theorem q_append {B : Nat} {w : World} {g o c : Nat} {q : List Nat} (h : QL B w g o c q) (hlen : q.length ≤ 100000) (x : Nat) (b : Nat) (hx : w.cell? ⟨b, 0, none⟩ = some (.int .i64 (x : Int))) (hB : B ≤ w.heap.size) (ty : TypeId) :
    ∃ g' o' c' w', (Builtin.append_ #[54, 54] ty #[.slice (some ⟨g, o, none⟩) q.length c, .slice (some ⟨b, 0, none⟩) 1 1]).run Try.prog w = .ok (.slice (some ⟨g', o', none⟩) (q.length + 1) c') w' ∧
      QL B w' g' o' c' (q ++ [x]) ∧ Fr (fun k => k = g) w w' ∧ (g' = g ∨ w.heap.size ≤ g') := by
  obtain ⟨i, hi, hz0, hz1, hz2⟩ := info_parts info3'
  have hnews : ∀ j u, ([Value.int .i64 (x : Int)] : List Value)[j]? = some u → w.cell? ((⟨b, 0, none⟩ : Addr).add j) = some u := fun j u hu => by
    have hj := (List.getElem?_eq_some_iff.1 hu).1
    simp at hj
    subst hj
    simp at hu
    subst hu
    exact hx
  have h1 : ∀ u ∈ ([Value.int .i64 (x : Int)] : List Value), u.oneCell' = true := fun u hu => by simp at hu; subst hu; rfl
  obtain ⟨hBg, cur, hg, hl, hc, hs, hcur⟩ := h
  by_cases hroom : q.length + 1 ≤ c
  · have hsrc := Src.ofSlice (P := Try.prog) w (size := i.size) Try.underlying54 ⟨b, 0, none⟩ 1 1 [.int .i64 (x : Int)] (by rw [hz1]; rfl) hnews h1
    have hr := run_append_room_src (P := Try.prog) w 54 54 ty 3 i Try.underlying54 hi g o q.length c (.slice (some ⟨b, 0, none⟩) 1 1) 1 [.int .i64 (x : Int)] hsrc hroom
      (fun j hj => by
        simp at hj; subst hj
        rw [hz1, cell_of_heap hg (v := cur[o + q.length * 1 + 0]'(by omega)) (Array.getElem?_eq_getElem _)]
        rfl)
      (fun j hj => by
        simp at hj; subst hj
        exact free_of_heap hg (by rw [hz1]; omega))
    rw [hz1] at hr
    refine ⟨g, o, c, _, hr, ⟨hBg, _, heap_setCells_at _ hg, by simpa using hroom, hc, ?_, ?_⟩, Fr.setCells _ _ _ _, .inl rfl⟩
    · simp [setMany]; omega
    · intro j y hy
      simp only [setMany, Nat.mul_one]
      by_cases hj : j = q.length
      · subst hj
        simp at hy
        subst hy
        rw [Array.getElem?_setIfInBounds_self_of_lt (by omega)]
      · have hj2 := (List.getElem?_eq_some_iff.1 hy).1
        simp at hj2
        rw [Array.getElem?_setIfInBounds_ne (by omega)]
        rw [List.getElem?_append_left (by omega)] at hy
        exact hcur j y hy
  · have holds : ∀ j v, (q.map fun y : Nat => Value.int .i64 (y : Int))[j]? = some v → w.cell? ((⟨g, o, none⟩ : Addr).add j) = some v := fun j v hv => by
      rw [List.getElem?_map] at hv
      obtain ⟨y, hy, rfl⟩ := Option.map_eq_some_iff.1 hv
      have e0 : (⟨g, o, none⟩ : Addr).add j = ⟨g, o + j, none⟩ := by
        unfold Addr.add
        split
        · rename_i e; subst e; rfl
        · rfl
      rw [e0]
      exact cell_of_heap hg (hcur j y hy)
    have hr := run_append_grow (P := Try.prog) w 54 ty 3 i _ Try.underlying54 hi hz0 ⟨g, o, none⟩ q.length c (q.map fun y : Nat => Value.int .i64 (y : Int)) (by rw [hz1]; simp) holds ⟨b, 0, none⟩ 1 1 [.int .i64 (x : Int)] (by rw [hz1]; rfl) hnews (by omega) (by omega) (growslice_fits (by omega) (by rw [hz2]; omega))
    refine ⟨_, 0, _, _, hr, ⟨hB, _, by exact heap_alloc_new _ _, ?_, ?_, ?_, ?_⟩, ?_, .inr (Nat.le_refl _)⟩
    · rw [List.length_append]; exact grownCap_ge _ _ _ _
    · exact grownCap_le_maxLen _ _ _ _ (by unfold maxLen; omega)
    · have := grownCap_ge w (q.length + 1) c 3
      simp [size_zeroCells]
      simp [Value.cells]
      omega
    · intro j y hy
      have hj := (List.getElem?_eq_some_iff.1 hy).1
      rw [Nat.zero_add, Array.getElem?_append_left (by simpa using hj)]
      have : (q ++ [x]).map (fun y : Nat => Value.int .i64 (y : Int)) = (q.map fun y : Nat => Value.int .i64 (y : Int)) ++ [.int .i64 (x : Int)] := by simp
      rw [show (q.map fun y : Nat => Value.int .i64 (y : Int)).toArray ++ [Value.int .i64 (x : Int)].toArray = ((q ++ [x]).map (fun y : Nat => Value.int .i64 (y : Int))).toArray by simp]
      simp only [List.getElem?_toArray, List.getElem?_map, hy]
      rfl
    · exact ((Fr.drew w).trans (Fr.alloc _ _)).mono (fun _ h => h.elim)
/-- At a step of a plain region. -/
theorem wpList_q_append {ops : Array Oper} {rest : List Oper} {o : Oper} {a : Act} {Q : Exit → Act → World → Prop} {w : World} (hgd : o.guard = none) (s x : Operand)
    (ho : o.op = .call { callee := .builtin .append, args := #[s, x], argTypes := #[54, 54] })
    {B g of c : Nat} {q : List Nat} (h : QL B w g of c q) (hlen : q.length ≤ 100000) (y : Nat) (b : Nat) (hs : a.eval s = .slice (some ⟨g, of, none⟩) q.length c) (hx : a.eval x = .slice (some ⟨b, 0, none⟩) 1 1) (hb : w.cell? ⟨b, 0, none⟩ = some (.int .i64 (y : Int))) (hB : B ≤ w.heap.size)
    (hk : ∀ g' o' c' w', QL B w' g' o' c' (q ++ [y]) → Fr (fun k => k = g) w w' → (g' = g ∨ w.heap.size ≤ g') → wpList Try.prog ops Q rest (a.put o.dst (.slice (some ⟨g', o', none⟩) (q.length + 1) c')) w') : wpList Try.prog ops Q (o :: rest) a w :=
  wpList_plain hgd fun K hK => by
    obtain ⟨g', o', c', w', hr, h1, h2, h3⟩ := q_append h hlen y b hb hB o.type
    unfold Oper.wp execOp
    simp only [ho, resolve, invoke, builtin, Sem.run_bind, Sem.run_pure, Result.andThen_ok, List.map_toArray, List.map_cons, List.map_nil, hs, hx, hr]
    exact hK _ _ (hk g' o' c' w' h1 h2 h3)
end Go.Proofs.Ytpmgkmodpneiiaa.E
