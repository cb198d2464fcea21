/- append of edges at a step of a region that draws its order. Conditions: those that each theorem names. -/
import Derived.Deep.CutBlock
import Derived.Test.YtfehlnmkeniniaaSom
import Derived.Test.YtfehlnmkeniniaaBak
namespace Go.Proofs.Ytfehlnmkeniniaa.E
open Go.RowKit Go.Sort Go.Shelf
open Go.Proofs.Ytfehlnmkeniniaa.Ma
set_option linter.unusedVariables false
set_option linter.unusedSimpArgs false
theorem step_app {w : World} {ops : Array Oper} {o : Oper} {a : Act} {K : Act → World → Prop} {Q : Exit → Act → World → Prop} {E : Prop} (hgd : o.guard = none) (s x : Operand) (ho : o.op = .call { callee := .builtin .append, args := #[s, x], argTypes := #[22, 22] })
    (B : Nat) (L N R : List Ed) (hR : L ++ N = R) (v : Value) (hs : a.eval s = v) (hown : w.ownsRow B 24 2 v L.length (cellsK enc2 L))
    (ad : Addr) (m c : Nat) (hx : a.eval x = .slice (some ad) m c) (hm : N.length = m) (hnews : ∀ j u, (cellsK enc2 N)[j]? = some u → w.cell? (ad.add j) = some u) (hlen : R.length ≤ 2000000) (hB : B ≤ w.heap.size)
    (h : ∀ A' c' w', w'.ownsRow B 24 2 (.slice A' R.length c') R.length (cellsK enc2 R) → Fr (fun k => v.ownBlock = some k) w w' → K (a.put o.dst (.slice A' R.length c')) w') :
    if Region.wanted o (yielded ops a.tmps) = true then Oper.wp Try.prog o a w K Q else E := by
  have hw : Region.wanted o (yielded ops a.tmps) = true := by simp [Region.wanted, hgd]
  rw [if_pos hw]
  obtain ⟨i0, hi, hz0, hz1, hz2⟩ := info_parts info24
  subst hR hm
  rw [List.length_append] at hlen
  obtain ⟨v', w', hr, h2, h3, h4, h5⟩ := run_append_own_at (P := Try.prog) w B 22 o.type 24 i0 _ 2 16 Try.underlying22 hi hz0 hz1 hz2 rfl (by decide) v L.length (cellsK enc2 L) hown ad N.length c (cellsK enc2 N) (by rw [cellsK_length enc2_len]) hnews cells_one2 (by unfold maxLen; omega) (by omega) hB
  unfold Oper.wp execOp
  simp only [ho, resolve, invoke, builtin, Sem.run_bind, Sem.run_pure, Result.andThen_ok, List.map_toArray, List.map_cons, List.map_nil, hs, hx, hr]
  rw [← cellsK_append, ← List.length_append] at h2
  obtain ⟨A', c', rfl, _, _⟩ := row_open enc2_len h2
  exact h A' c' w' h2 (Fr.of_grownR h3)
theorem step_app0 {w : World} {ops : Array Oper} {o : Oper} {a : Act} {K : Act → World → Prop} {Q : Exit → Act → World → Prop} {E : Prop} (hgd : o.guard = none) (s x : Operand) (ho : o.op = .call { callee := .builtin .append, args := #[s, x], argTypes := #[22, 22] })
    (B : Nat) (L : List Ed) (v : Value) (hs : a.eval s = v) (hown : w.ownsRow B 24 2 v L.length (cellsK enc2 L)) (hx : a.eval x = .slice none 0 0)
    (h : K (a.put o.dst v) w) :
    if Region.wanted o (yielded ops a.tmps) = true then Oper.wp Try.prog o a w K Q else E := by
  have hw : Region.wanted o (yielded ops a.tmps) = true := by simp [Region.wanted, hgd]
  rw [if_pos hw]
  obtain ⟨i0, hi, hz0, hz1, hz2⟩ := info_parts info24
  have hr := run_append_owned_none (P := Try.prog) w B 22 o.type 24 i0 2 Try.underlying22 hi v L.length (cellsK enc2 L) hown
  unfold Oper.wp execOp
  simp only [ho, resolve, invoke, builtin, Sem.run_bind, Sem.run_pure, Result.andThen_ok, List.map_toArray, List.map_cons, List.map_nil, hs, hx, hr]
  exact h
end Go.Proofs.Ytfehlnmkeniniaa.E
