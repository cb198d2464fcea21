/- EdgesBack, walked. Conditions: the list lies readable. -/
import Derived.Test.YtfehlnmkeniniaaCtr
namespace Go.Proofs.Ytfehlnmkeniniaa.E
open Go.RowKit Go.Sort Go.Shelf
open Go.Proofs.Ytfehlnmkeniniaa.Ma
set_option linter.unusedVariables false
set_option linter.unusedSimpArgs false
theorem nat_cell {w : World} {b o : Nat} {K : List Ed} (h : Lies enc2 2 w (some ⟨b, o, none⟩) K) : ∀ j u, (cellsK enc2 K)[j]? = some u → w.cell? ((⟨b, o, none⟩ : Addr).add j) = some u := lies_src h (Below.refl _ _)
/-- append onto a slice that is full: a new row, or nothing. -/
theorem run_lapp (w : World) (ty : TypeId) (ad0 : Addr) (K N : List Ed) (hK : Lies enc2 2 w (some ad0) K) (ad : Addr) (c : Nat) (hN : ∀ j u, (cellsK enc2 N)[j]? = some u → w.cell? (ad.add j) = some u) (hlen : K.length + N.length ≤ 2000000) :
    ∃ A' c' w', (Builtin.append_ #[22, 22] ty #[.slice (some ad0) K.length K.length, .slice (some ad) N.length c]).run Try.prog w = .ok (.slice A' (K ++ N).length c') w' ∧ (K ++ N).length ≤ c' ∧ c' ≤ 9223372036854775807 ∧ Lies enc2 2 w' A' (K ++ N) ∧ Below w.heap.size w w' := by
  obtain ⟨i0, hi, hz0, hz1, hz2⟩ := info_parts info24
  have hcN := cellsK_length enc2_len N
  have hcK := cellsK_length enc2_len K
  by_cases h0 : N.length = 0
  · have hN0 : N = [] := List.length_eq_zero_iff.1 h0
    subst hN0
    refine ⟨some ad0, K.length, w, ?_, by simp, by omega, by rw [List.append_nil]; exact hK, Below.refl _ _⟩
    have hf := run_firstCells_some (P := Try.prog) w i0.size 0 ad 0 c [] (by simp) (by simp)
    simp [Builtin.append_, run_underlying Try.underlying22, sizeOf, typeInfo, hi, Builtin.lenOf, hf, storeCells]
  · have hr := run_append_grow (P := Try.prog) w 22 ty 24 i0 _ Try.underlying22 hi hz0 ad0 K.length K.length (cellsK enc2 K) (by rw [hcK, hz1]) (lies_src hK (Below.refl _ _)) ad N.length c (cellsK enc2 N) (by rw [hcN, hz1]) hN (by omega) (by omega) (growslice_fits (by omega) (by rw [hz2]; omega))
    have hge := grownCap_ge w (K.length + N.length) K.length 24
    have hle := grownCap_le_maxLen w (K.length + N.length) K.length 24 (by unfold maxLen; omega)
    have hb : Below w.heap.size w (w.drew.alloc (.cells ((cellsK enc2 K).toArray ++ (cellsK enc2 N).toArray ++ Builtin.zeroCells (Value.agg #[.int .i64 0, .int .i64 0]).cells (grownCap w (K.length + N.length) K.length 24 - (K.length + N.length))) 24)) := ((Below.refl _ _).drew).alloc (Nat.le_refl _) _
    refine ⟨_, _, _, by rw [hr, List.length_append], by rw [List.length_append]; exact hge, by unfold maxLen at hle; omega, fun j x hx => ?_, hb⟩
    refine ⟨w.heap.size, 0, rfl, by simp, fun i u hu => ?_⟩
    have hat := cellsK_at enc2_len hx hu
    rw [cellsK_append] at hat
    have hlt := (List.getElem?_eq_some_iff.1 hat).1
    rw [Nat.zero_add]
    refine cell_of_heap (heap_alloc_new w.drew _) ?_
    rw [Array.getElem?_append_left (by simpa using hlt)]
    simpa using hat
theorem wp_lapp {w : World} {ops : Array Oper} {rest : List Oper} {o : Oper} {a : Act} {Q : Exit → Act → World → Prop} (hgd : o.guard = none) (s x : Operand) (ho : o.op = .call { callee := .builtin .append, args := #[s, x], argTypes := #[22, 22] })
    (K N R : List Ed) (hR : K ++ N = R) (ad0 : Addr) (n : Nat) (hn : K.length = n) (hs : a.eval s = .slice (some ad0) n n) (hK : Lies enc2 2 w (some ad0) K) (ad : Addr) (m c : Nat) (hm : N.length = m) (hx : a.eval x = .slice (some ad) m c) (hN : ∀ j u, (cellsK enc2 N)[j]? = some u → w.cell? (ad.add j) = some u) (hlen : n + m ≤ 2000000)
    (h : ∀ A' c' w', R.length ≤ c' ∧ c' ≤ 9223372036854775807 → Lies enc2 2 w' A' R → Below w.heap.size w w' → wpList Try.prog ops Q rest (a.put o.dst (.slice A' R.length c')) w') : wpList Try.prog ops Q (o :: rest) a w := by
  subst hR hn hm
  refine wpList_plain hgd fun H hH => ?_
  obtain ⟨A', c', w', hr, h1, h2, h3, h4⟩ := run_lapp w o.type ad0 K N hK ad c hN hlen
  unfold Oper.wp execOp
  simp only [ho, resolve, invoke, builtin, Sem.run_bind, Sem.run_pure, Result.andThen_ok, List.map_toArray, List.map_cons, List.map_nil, hs, hx, hr]
  exact hH _ _ (h A' c' w' ⟨h1, h2⟩ h3 h4)
theorem rvs2 (L : List Ed) : (rvs (rvs L)).Perm L := by
  refine (rvs_perm _).trans ?_
  have := (rvs_perm L).map swp
  rw [List.map_map] at this
  have e : swp ∘ swp = id := by funext x; rfl
  rwa [e, List.map_id] at this
theorem rvs4 (L : List Ed) : rvs (rvs (rvs (rvs L))) = rvs (rvs L) := order_unique ((rvs2 (rvs (rvs L)))) (rvs_order _) (rvs_order _)
theorem erase_perm {K : List Ed} {T : List Ed} {x : Ed} {j : Nat} (hp : K.Perm (x :: T)) (hj : K[j]? = some x) : (K.eraseIdx j).Perm T := by
  have hlt := (List.getElem?_eq_some_iff.1 hj).1
  have he := (List.getElem?_eq_some_iff.1 hj).2
  have h1 : K.Perm (x :: K.eraseIdx j) := by
    rw [List.eraseIdx_eq_take_drop_succ]
    have e : K = K.take j ++ x :: K.drop (j + 1) := by rw [← he, List.getElem_cons_drop, List.take_append_drop]
    exact (List.Perm.of_eq e).trans List.perm_middle
  exact (List.perm_cons x).1 (h1.symm.trans hp)
end Go.Proofs.Ytfehlnmkeniniaa.E
