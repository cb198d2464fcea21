/- shards: rows of lists in memory of the call's own. Conditions: those that each theorem names. -/
import Derived.Test.YtdlmkdldmiiaiaaPrt
namespace Go.Proofs.Ytdlmkdldmiiaiaa.E
open Go.RowKit Go.Sort Go.Shelf
open Go.Proofs.Ytdlmkdldmiiaiaa.Ma Go.Proofs.Ytdlmkdldmiiaiaa.By Go.Proofs.Ytdlmkdldmiiaiaa.Enc
set_option linter.unusedVariables false
set_option linter.unusedSimpArgs false
abbrev encV (x : Value) : List Value := [x]
theorem encV_len (x : Value) : (encV x).length = 1 := rfl
theorem info62 : (Try.prog.info? 62).map (fun i => (i.zero, i.size, i.bytes)) = some (some (.slice none 0 0), 1, 24) := by kernel_rfl
theorem cellsV (V : List Value) : cellsK encV V = V := by
  unfold cellsK encV
  induction V with
  | nil => rfl
  | cons x r ih => rw [List.flatMap_cons, ih]; rfl
/-- One slice more onto a row of the call's own, in a region that draws. -/
theorem step_appV {w : World} {ops : Array Oper} {o : Oper} {a : Act} {K : Act → World → Prop} {Q : Exit → Act → World → Prop} {E : Prop} (hgd : o.guard = none) (s x : Operand) (ho : o.op = .call { callee := .builtin .append, args := #[s, x], argTypes := #[26, 26] })
    (B : Nat) (L : List Value) (y : Value) (hy : y.oneCell' = true) (v : Value) (hs : a.eval s = v) (hown : w.ownsRow B 62 1 v L.length L)
    (b : Nat) (hx : a.eval x = .slice (some ⟨b, 0, none⟩) 1 1) (hb : w.heap[b]? = some (.cells #[y] 62 (0, 0))) (hlen : L.length ≤ 100000) (hB : B ≤ w.heap.size)
    (h : ∀ A' c' w', w'.ownsRow B 62 1 (.slice A' (L ++ [y]).length c') (L ++ [y]).length (L ++ [y]) → Fr (fun k => v.ownBlock = some k) w w' → K (a.put o.dst (.slice A' (L ++ [y]).length c')) w') :
    if Region.wanted o (yielded ops a.tmps) = true then Oper.wp Try.prog o a w K Q else E := by
  have hw : Region.wanted o (yielded ops a.tmps) = true := by simp [Region.wanted, hgd]
  rw [if_pos hw]
  obtain ⟨i0, hi, hz0, hz1, hz2⟩ := info_parts info62
  obtain ⟨v', w', hr, h2, h3, h4, h5⟩ := run_append_own_at (P := Try.prog) w B 26 o.type 62 i0 _ 1 24 Try.underlying26 hi hz0 hz1 hz2 rfl (by decide) v L.length L hown ⟨b, 0, none⟩ 1 1 [y] rfl (fun j u hu => by
    have hj := (List.getElem?_eq_some_iff.1 hu).1
    simp at hj
    subst hj
    simp at hu
    subst hu
    exact cell_of_heap (i := 0) hb rfl) (fun u hu => by simp at hu; subst hu; exact hy) (by unfold maxLen; omega) (by omega) hB
  unfold Oper.wp execOp
  simp only [ho, resolve, invoke, builtin, Sem.run_bind, Sem.run_pure, Result.andThen_ok, List.map_toArray, List.map_cons, List.map_nil, hs, hx, hr]
  have h2' : w'.ownsRow B 62 1 v' (L ++ [y]).length (cellsK encV (L ++ [y])) := by rw [cellsV, List.length_append]; exact h2
  obtain ⟨A', c', rfl, _, _⟩ := row_open encV_len h2'
  rw [cellsV] at h2'
  exact h A' c' w' h2' (Fr.of_grownR h3)
/-- Lists in rows of the call's own, in a row of the call's own. -/
structure OutR (B : Nat) (w : World) (v : Value) (O : List (List Int)) : Prop where
  row : ∃ V : List Value, w.ownsRow B 62 1 v V.length V ∧ V.length = O.length ∧ (∀ x ∈ V, x.oneCell' = true) ∧ ∀ (j : Nat) (x : Value) (L : List Int), V[j]? = some x → O[j]? = some L → ∃ B', w.ownsRow B' 3 1 x L.length (cellsK encI L)
theorem row_kept {w w' : World} {B n : Nat} {x : Value} {xs : List Value} {S : Nat → Prop} (h : w.ownsRow B 3 1 x n xs) (hf : Fr S w w') (hS : ∀ k, S k → ∀ cs fz, w.heap[k]? ≠ some (.cells cs 3 fz)) : w'.ownsRow B 3 1 x n xs :=
  hf.row h (fun g hg hs => by
    obtain ⟨cs, fz, hc⟩ := row_kind h g hg
    exact hS g hs cs fz hc)
theorem OutR.fr {B : Nat} {w w' : World} {v : Value} {O : List (List Int)} {S : Nat → Prop} (h : OutR B w v O) (hf : Fr S w w') (hS : ∀ k, S k → ∀ cs fz, w.heap[k]? ≠ some (.cells cs 3 fz)) (hv : ∀ k, S k → v.ownBlock ≠ some k) : OutR B w' v O := by
  obtain ⟨V, h1, h2, h3, h4⟩ := h.row
  refine ⟨V, hf.row h1 (fun g hg hs => hv g hs hg), h2, h3, fun j x L hx hL => ?_⟩
  obtain ⟨B', hr⟩ := h4 j x L hx hL
  exact ⟨B', row_kept hr hf hS⟩
theorem rowV_kind {w : World} {B n : Nat} {v : Value} {xs : List Value} (h : w.ownsRow B 62 1 v n xs) : ∀ k, v.ownBlock = some k → B ≤ k ∧ k < w.heap.size ∧ ∃ cs fz, w.heap[k]? = some (.cells cs 62 fz) := fun k hk => by
  rcases h.2 with ⟨e, _⟩ | ⟨g, cap, cur, e, hb, hg, _⟩
  · rw [e] at hk; cases hk
  · rw [e] at hk
    cases hk
    exact ⟨hb, lt_of_heap hg, _, _, hg⟩
theorem OutR.lies {B c : Nat} {w : World} {A : Option Addr} {O : List (List Int)} (h : OutR B w (.slice A O.length c) O) : LiesR w A O ∧ O.length ≤ c ∧ c ≤ 9223372036854775807 := by
  obtain ⟨V, h1, h2, h3, h4⟩ := h.row
  have h1' : w.ownsRow B 62 1 (.slice A V.length c) V.length (cellsK encV V) := by rw [cellsV, h2]; rw [h2] at h1; exact h1
  obtain ⟨A', c', e, hc1, hc2⟩ := row_open encV_len h1'
  cases e
  refine ⟨fun j L hL => ?_, by omega, hc2⟩
  have hj := (List.getElem?_eq_some_iff.1 hL).1
  obtain ⟨x, hx⟩ : ∃ x, V[j]? = some x := ⟨_, List.getElem?_eq_getElem (by omega)⟩
  obtain ⟨b, o, e, hb, hcell⟩ := row_lies encV_len h1' j x hx
  obtain ⟨B', hr⟩ := h4 j x L hx hL
  obtain ⟨A2, c2, rfl, k1, k2⟩ := row_open encI_len hr
  have := hcell 0 _ rfl
  rw [Nat.mul_one, Nat.add_zero] at this
  exact ⟨b, o, e, hb, A2, c2, this, k1, k2, row_lies encI_len hr⟩
theorem OutR.nil (B : Nat) (w : World) : OutR B w (.slice none 0 0) [] := by
  refine ⟨[], World.ownsRow_nil _ _ _ _, rfl, ?_, ?_⟩
  · intro x h; cases h
  · intro j x L hx; simp at hx
/-- A list more. -/
theorem OutR.app {B : Nat} {w w' : World} {v v' x : Value} {O : List (List Int)} {L : List Int} {V : List Value} (h : w.ownsRow B 62 1 v V.length V) (hl : V.length = O.length) (h1 : ∀ y ∈ V, y.oneCell' = true)
    (hr : ∀ (j : Nat) (y : Value) (M : List Int), V[j]? = some y → O[j]? = some M → ∃ B', w.ownsRow B' 3 1 y M.length (cellsK encI M)) (hx : ∃ B', w.ownsRow B' 3 1 x L.length (cellsK encI L)) (hx1 : x.oneCell' = true)
    (hf : Fr (fun k => v.ownBlock = some k) w w') (hv : w'.ownsRow B 62 1 v' (V ++ [x]).length (V ++ [x])) : OutR B w' v' (O ++ [L]) := by
  have hS : ∀ k, v.ownBlock = some k → ∀ cs fz, w.heap[k]? ≠ some (.cells cs 3 fz) := fun k hk cs fz e => by
    obtain ⟨_, _, cs', fz', h'⟩ := rowV_kind h k hk
    rw [h'] at e
    cases e
  refine ⟨V ++ [x], hv, by simp [hl], fun y hy => ?_, fun j y M hy hM => ?_⟩
  · rcases List.mem_append.1 hy with h' | h'
    · exact h1 y h'
    · simp at h'; subst h'; exact hx1
  · by_cases hj : j < V.length
    · rw [List.getElem?_append_left hj] at hy
      rw [List.getElem?_append_left (by omega)] at hM
      obtain ⟨B', q⟩ := hr j y M hy hM
      exact ⟨B', row_kept q hf hS⟩
    · have hjl := (List.getElem?_eq_some_iff.1 hy).1
      simp at hjl
      have : j = V.length := by omega
      subst this
      simp at hy
      rw [hl] at hM
      simp at hM
      subst hy hM
      obtain ⟨B', q⟩ := hx
      exact ⟨B', row_kept q hf hS⟩
/-! ### what Decode tells, plainly -/
def lstsC (s : ByteArray) : Nat → Int → Bool → List (List Int) × Int × Bool
  | 0, a, bad => ([], a, bad)
  | m + 1, a, bad => ((lstC s a bad).1 :: (lstsC s m (lstC s a bad).2.1 (lstC s a bad).2.2).1, (lstsC s m (lstC s a bad).2.1 (lstC s a bad).2.2).2)
/-- The ends, the lists, and 0, or why there are none. -/
def decZ (s : ByteArray) (lo hi : Int) (O : List (List Int)) (bad : Bool) : Int × Int × List (List Int) × Int :=
  if bad = true ∨ (encS lo hi O).2 ≠ 0 ∨ bytesB (encS lo hi O).1 ≠ s then (0, 0, [], 10) else (lo, hi, O, 0)
def decS (s : ByteArray) : Int × Int × List (List Int) × Int :=
  decZ s (partC s).1.1 (partC s).1.2 (lstsC s ((partC s).1.2 - (partC s).1.1).toNat (partC s).2.1 (partC s).2.2).1 (lstsC s ((partC s).1.2 - (partC s).1.1).toNat (partC s).2.1 (partC s).2.2).2.2
theorem partC_in (s : ByteArray) : (0 ≤ (partC s).2.1 ∧ (partC s).2.1 ≤ s.size) ∧ 0 ≤ (partC s).1.1 ∧ (partC s).1.1 ≤ (partC s).1.2 ∧ (partC s).1.2 ≤ 256 := by
  unfold partC
  refine ⟨partZ_in (numC_in (numC_in (skipC_in (by omega) (by omega)))), ?_⟩
  unfold partZ
  split
  · simp
  · rename_i hc
    have hm : ∀ q, q = true ∨ q = false := fun q => by cases q <;> simp
    rcases hm (mayC _ _) with h | h
    · obtain ⟨h0, h1, h2⟩ := mayC_in h
      exact ⟨h0, Int.le_of_lt h1, h2⟩
    · exact absurd (.inr (.inl h)) hc
end Go.Proofs.Ytdlmkdldmiiaiaa.E
