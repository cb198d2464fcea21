/- Steps of a region that draws: appends of texts. Conditions: those that each theorem names. -/
import Derived.Test.YtnpdnnaemfdinaaRfd
namespace Go.Proofs.Ytnpdnnaemfdinaa.F
open Go.RowKit Go.Maps Go.Sort Go.Shelf
open Go.Proofs.Ytnpdnnaemfdinaa.Ma
set_option linter.unusedVariables false
set_option linter.unusedSimpArgs false
theorem cells_oneS (N : List ByteArray) : ∀ u ∈ cellsK encS N, Value.oneCell' u = true := by
  rw [cellsS]
  intro u hu
  obtain ⟨z, _, rfl⟩ := List.mem_map.1 hu
  rfl
/-- append of texts that lie there onto a row of the call's own, run. -/
theorem run_texts {w : World} {ty : TypeId} {B : Nat} {M N : List ByteArray} {v : Value} (hown : w.ownsRow B 9 1 v M.length (cellsK encS M)) {A : Option Addr} {m c : Nat} (hm : N.length = m) (hl : Lies encS 1 w A N) (hlen : M.length + m ≤ 1000000) (hB : B ≤ w.heap.size) :
    ∃ A' c' w', (Builtin.append_ #[28, 28] ty #[v, .slice A m c]).run Try.prog w = .ok (.slice A' (M.length + m) c') w' ∧ w'.ownsRow B 9 1 (.slice A' (M.length + m) c') (M.length + m) (cellsK encS (M ++ N)) ∧ Fr (fun k => v.ownBlock = some k) w w' := by
  obtain ⟨i0, hi, hz0, hz1, hz2⟩ := info_parts info9
  subst hm
  have hgo : ∀ ad : Addr, (∀ j u, (cellsK encS N)[j]? = some u → w.cell? (ad.add j) = some u) → ∃ A' c' w', (Builtin.append_ #[28, 28] ty #[v, .slice (some ad) N.length c]).run Try.prog w = .ok (.slice A' (M.length + N.length) c') w' ∧ w'.ownsRow B 9 1 (.slice A' (M.length + N.length) c') (M.length + N.length) (cellsK encS (M ++ N)) ∧ Fr (fun k => v.ownBlock = some k) w w' := fun ad hn => by
    obtain ⟨v', w', hr, h2, h3, h4, h5⟩ := run_append_own_at (P := Try.prog) w B 28 ty 9 i0 _ 1 16 Try.underlying28 hi hz0 hz1 hz2 rfl (by decide) v M.length (cellsK encS M) hown ad N.length c (cellsK encS N) (by rw [cellsK_length encS_len]) hn (cells_oneS N) (by unfold maxLen; omega) (by omega) hB
    rw [← cellsK_append, ← List.length_append] at h2
    obtain ⟨A', c', rfl, _, _⟩ := row_open encS_len h2
    rw [List.length_append] at hr h2
    exact ⟨A', c', w', hr, h2, Fr.of_grownR h3⟩
  cases A with
  | some ad =>
    refine hgo ad ?_
    cases N with
    | nil => exact fun j u hu => nomatch hu
    | cons y r =>
      obtain ⟨g, o', e, _, _⟩ := hl 0 y rfl
      cases e
      have hn := lies_news encS_len hl (Below.refl _ _) (n := (y :: r).length) 0
      rw [List.drop_zero, List.take_length, Nat.zero_mul, Nat.add_zero] at hn
      exact hn
  | none =>
    cases N with
    | cons y r =>
      obtain ⟨g, o', e, _, _⟩ := hl 0 y rfl
      cases e
    | nil =>
      obtain ⟨A', c', rfl, h1, h2⟩ := row_open encS_len hown
      refine ⟨A', c', w, ?_, by simpa using hown, Fr.refl _ _⟩
      rw [List.length_nil, Nat.add_zero]
      rcases hown.2 with ⟨e, h0⟩ | ⟨g, cap, cur, e, _, _, hnc, _⟩
      · have hA : A' = none ∧ c' = 0 := by injection e with e1 _ e3; exact ⟨e1, e3⟩
        obtain ⟨rfl, rfl⟩ := hA
        rw [h0]
        simp [Builtin.append_, run_underlying Try.underlying28, sizeOf, typeInfo, hi, Builtin.lenOf, Builtin.firstCells]
      · cases e
        simp [Builtin.append_, run_underlying Try.underlying28, sizeOf, typeInfo, hi, Builtin.lenOf, Builtin.firstCells, hnc, storeCells]
section
variable {w : World} {ops : Array Oper} {o : Oper} {a : Act} {K : Act → World → Prop} {Q : Exit → Act → World → Prop} {E : Prop}
theorem step_texts (hgd : o.guard = none) (s x : Operand) (ho : o.op = .call { callee := .builtin .append, args := #[s, x], argTypes := #[28, 28] })
    (B : Nat) (M N R : List ByteArray) (hR : M ++ N = R) (n : Nat) (hRn : R.length = n) (v : Value) (hs : a.eval s = v) (hown : w.ownsRow B 9 1 v M.length (cellsK encS M)) (A : Option Addr) (m c : Nat) (hx : a.eval x = .slice A m c) (hm : N.length = m) (hl : Lies encS 1 w A N) (hlen : n ≤ 1000000) (hB : B ≤ w.heap.size)
    (h : ∀ A' c' w', w'.ownsRow B 9 1 (.slice A' n c') n (cellsK encS R) → Fr (fun k => v.ownBlock = some k) w w' → K (a.put o.dst (.slice A' n c')) w') :
    if Region.wanted o (yielded ops a.tmps) = true then Oper.wp Try.prog o a w K Q else E := by
  have hw : Region.wanted o (yielded ops a.tmps) = true := by simp [Region.wanted, hgd]
  rw [if_pos hw]
  subst hR
  have e : n = M.length + m := by rw [← hRn, List.length_append, hm]
  subst e
  obtain ⟨A', c', w', hr, h1, h2⟩ := run_texts (ty := o.type) (c := c) hown hm hl hlen hB
  unfold Oper.wp execOp
  simp only [ho, resolve, invoke, builtin, Sem.run_bind, Sem.run_pure, Result.andThen_ok, List.map_toArray, List.map_cons, List.map_nil, hs, hx, hr]
  exact h A' c' w' h1 h2
end
def blanks (N : Nat) : Obj := .cells (List.replicate N (Value.string ⟨#[]⟩)).toArray 9 (0, 0)
theorem make_s (N : Nat) (h : N ≤ 1000) (w : World) : (Instr.makeSlice 28 (.int .i64 0) (.int .i64 (N : Int))).run Try.prog w = .ok (.slice (some ⟨w.heap.size, 0, none⟩) 0 N) (w.alloc (blanks N)) := by
  obtain ⟨i0, hi, hz0, hz1, hz2⟩ := info_parts info9
  have hr := run_makeSlice (P := Try.prog) w 28 9 i0 _ Try.underlying28 hi hz0 .i64 .i64 (0 : Int) (N : Int) (by omega) (by omega) (by rw [hz1]; omega) (by rw [hz2]; omega) (by omega)
  rw [hr]
  have e : madeCells (Value.string ⟨#[]⟩).cells ((N : Int).toNat * i0.size) = (List.replicate N (Value.string ⟨#[]⟩)).toArray := by
    apply Array.ext'
    rw [show (Value.string ⟨#[]⟩).cells = #[Value.string ⟨#[]⟩] from rfl, toList_madeCells_one, hz1]
    simp
  rw [e]
  simp [blanks]
/-- A row of no texts, with room. -/
theorem row_blank {w : World} {B b N : Nat} (h : w.heap[b]? = some (blanks N)) (hB : B ≤ b) (hN : N ≤ maxLen) : w.ownsRow B 9 1 (.slice (some ⟨b, 0, none⟩) 0 N) ([] : List ByteArray).length (cellsK encS []) :=
  ⟨rfl, .inr ⟨b, N, _, rfl, hB, h, by simp, hN, by simp, by simp [cellsK]⟩⟩
end Go.Proofs.Ytnpdnnaemfdinaa.F
