/- append of edges to a row of the call's own. Conditions: those that each theorem names. -/
import Derived.Deep.CutBlock
import Derived.Test.YtdlmkdldmiiaiaaNor
namespace Go.Proofs.Ytdlmkdldmiiaiaa.D
open Go.RowKit Go.Sort Go.Shelf
open Go.Proofs.Ytdlmkdldmiiaiaa.Ma
set_option linter.unusedVariables false
set_option linter.unusedSimpArgs false
section
variable {w : World} {ops : Array Oper} {rest : List Oper} {o : Oper} {a : Act} {Q : Exit → Act → World → Prop}
theorem cells_one2 {L : List Ed} : ∀ u ∈ cellsK enc2 L, u.oneCell' = true := by
  intro u hu
  simp only [cellsK, List.mem_flatMap] at hu
  obtain ⟨p, _, hp⟩ := hu
  exact enc2_one p u hp
/-- append of edges that lie there to a row of the call's own. -/
theorem wp_app (hgd : o.guard = none) (s x : Operand) (ho : o.op = .call { callee := .builtin .append, args := #[s, x], argTypes := #[22, 22] })
    (B : Nat) (L N R : List Ed) (hR : L ++ N = R) (v : Value) (hs : a.eval s = v) (hown : w.ownsRow B 41 2 v L.length (cellsK enc2 L))
    (ad : Addr) (m c : Nat) (hx : a.eval x = .slice (some ad) m c) (hm : N.length = m) (hnews : ∀ j u, (cellsK enc2 N)[j]? = some u → w.cell? (ad.add j) = some u) (hlen : R.length ≤ 2000000) (hB : B ≤ w.heap.size)
    (h : ∀ A' c' w', w'.ownsRow B 41 2 (.slice A' R.length c') R.length (cellsK enc2 R) → Fr (fun k => v.ownBlock = some k) w w' → wpList Try.prog ops Q rest (a.put o.dst (.slice A' R.length c')) w') : wpList Try.prog ops Q (o :: rest) a w := by
  obtain ⟨i0, hi, hz0, hz1, hz2⟩ := info_parts info24
  subst hR hm
  rw [List.length_append] at hlen
  refine wpList_append_own_at _ hgd s x 22 ho B 41 i0 _ 2 16 Try.underlying22 hi hz0 hz1 hz2 rfl (by decide) v L.length (cellsK enc2 L) hs hown ad N.length c (cellsK enc2 N) hx (by rw [cellsK_length enc2_len]) hnews cells_one2 (by unfold maxLen; omega) (by omega) hB ?_
  intro v' w' hr hg _ _
  rw [← cellsK_append, ← List.length_append] at hr
  obtain ⟨A', c', rfl, _, _⟩ := row_open enc2_len hr
  exact h A' c' w' hr (Fr.of_grownR hg)
theorem wp_app0 (hgd : o.guard = none) (s x : Operand) (ho : o.op = .call { callee := .builtin .append, args := #[s, x], argTypes := #[22, 22] })
    (B : Nat) (L : List Ed) (v : Value) (hs : a.eval s = v) (hown : w.ownsRow B 41 2 v L.length (cellsK enc2 L)) (hx : a.eval x = .slice none 0 0)
    (h : wpList Try.prog ops Q rest (a.put o.dst v) w) : wpList Try.prog ops Q (o :: rest) a w := by
  obtain ⟨i0, hi, hz0, hz1, hz2⟩ := info_parts info24
  refine wpList_plain hgd fun K hK => ?_
  have hr := run_append_owned_none (P := Try.prog) w B 22 o.type 41 i0 2 Try.underlying22 hi v L.length (cellsK enc2 L) hown
  unfold Oper.wp execOp
  simp only [ho, resolve, invoke, builtin, Sem.run_bind, Sem.run_pure, Result.andThen_ok, List.map_toArray, List.map_cons, List.map_nil, hs, hx, hr]
  exact hK _ _ h
end
theorem news_one {w : World} {b : Nat} {x1 x2 : Int} (h : w.heap[b]? = some (.cells #[.int .i64 x1, .int .i64 x2] 41 (0, 0))) : ∀ j u, (cellsK enc2 [(x1, x2)])[j]? = some u → w.cell? ((⟨b, 0, none⟩ : Addr).add j) = some u := by
  rw [cellsK_one]
  exact World.news_of_block h
theorem news_nil {w : World} {N : List Ed} (h : N = []) (ad : Addr) : ∀ j u, (cellsK enc2 N)[j]? = some u → w.cell? (ad.add j) = some u := by
  subst h
  intro j u hu
  simp [cellsK] at hu
theorem wrapq {q : Nat} (h : q ≤ 500000) : IntKind.i64.wrap (q : Int) = (q : Int) := by
  simp only [IntKind.wrap, IntKind.bits, IntKind.signed]
  simp
  omega
end Go.Proofs.Ytdlmkdldmiiaiaa.D
