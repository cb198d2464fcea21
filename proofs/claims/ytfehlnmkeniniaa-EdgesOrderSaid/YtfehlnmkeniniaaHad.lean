/- A field of 256 times 256 truths: laid anew, set, counted. Conditions: those that each theorem names. -/
import Derived.Test.YtfehlnmkeniniaaSap
namespace Go.Proofs.Ytfehlnmkeniniaa.E
open Go.RowKit Go.Sort Go.Shelf
open Go.Proofs.Ytfehlnmkeniniaa.Ma
set_option linter.unusedVariables false
set_option linter.unusedSimpArgs false
def isF : Value → Bool
  | .bool false => true
  | _ => false
def zsOf : Option Value → List Value
  | some (.agg xs) => xs.toList
  | _ => []
def chk : Nat → List Value → Bool
  | 0, [] => true
  | n + 1, a :: r => isF a && chk n r
  | _, _ => false
theorem isF_eq {v : Value} (h : isF v = true) : v = .bool false := by
  unfold isF at h
  split at h
  · rfl
  · cases h
theorem chk_eq : ∀ (n : Nat) (l : List Value), chk n l = true → l = List.replicate n (.bool false)
  | 0, [], _ => rfl
  | n + 1, a :: r, h => by
    unfold chk at h
    rw [Bool.and_eq_true] at h
    rw [isF_eq h.1, chk_eq n r h.2, List.replicate_succ]
  | 0, _ :: _, h => by simp [chk] at h
  | _ + 1, [], h => by simp [chk] at h
theorem zeros41 : chk 65536 (zsOf ((Try.prog.info? 41).bind (·.zero))) = true := by kernel_rfl
theorem zero41 : ∃ Z : Array Value, (Try.prog.info? 41).bind (·.zero) = some (.agg Z) ∧ Z.toList = List.replicate 65536 (.bool false) := by
  have h := chk_eq _ _ zeros41
  generalize (Try.prog.info? 41).bind (·.zero) = z at h ⊢
  have hlen := congrArg List.length h
  rw [List.length_replicate] at hlen
  cases z with
  | none => simp [zsOf] at hlen
  | some v =>
    cases v
    case agg xs => exact ⟨xs, rfl, h⟩
    all_goals simp [zsOf] at hlen
/-- Truth at each place of S, and there alone. -/
def HadAt (w : World) (b : Nat) (S : List Ed) : Prop := ∃ C : Array Value, w.heap[b]? = some (.cells C 41 (0, 0)) ∧ C.size = 65536 ∧ ∀ i j : Nat, i < 256 → j < 256 → C[i * 256 + j]? = some (.bool (decide (((i : Int), (j : Int)) ∈ S)))
theorem alloc41 : ∃ Z : Array Value, (∀ w : World, (zeroValue 41).run Try.prog w = .ok (.agg Z) w) ∧ ∀ w : World, HadAt (w.alloc (.cells Z 41 (0, 0))) w.heap.size [] := by
  obtain ⟨Z, hz, hl⟩ := zero41
  have hs : Z.size = 65536 := by rw [← Array.length_toList, hl, List.length_replicate]
  refine ⟨Z, fun w => ?_, fun w => ⟨Z, heap_alloc_new w _, hs, fun i j hi hj => ?_⟩⟩
  · obtain ⟨i0, hi, hzz⟩ : ∃ i, Try.prog.info? 41 = some i ∧ i.zero = some (.agg Z) := by
      cases h : Try.prog.info? 41 with
      | none => rw [h] at hz; cases hz
      | some i => rw [h] at hz; exact ⟨i, rfl, hz⟩
    simp [zeroValue, typeInfo, hi, hzz]
  · have : i * 256 + j < 65536 := by omega
    have h2 : Z.toList[i * 256 + j]? = some (.bool false) := by rw [hl, List.getElem?_replicate, if_pos this]
    simpa using h2
theorem HadAt.cell {w : World} {b : Nat} {S : List Ed} (h : HadAt w b S) {i j : Nat} (hi : i < 256) (hj : j < 256) : w.cell? ⟨b, i * 256 + j, none⟩ = some (.bool (decide (((i : Int), (j : Int)) ∈ S))) ∧ w.frozen? ⟨b, i * 256 + j, none⟩ = false := by
  obtain ⟨C, hc, hs, ha⟩ := h
  exact ⟨cell_of_heap hc (ha i j hi hj), free_of_heap hc (by rw [hs]; omega)⟩
theorem HadAt.set {w : World} {b : Nat} {S : List Ed} (h : HadAt w b S) {i j : Nat} (hi : i < 256) (hj : j < 256) : HadAt (w.setCell ⟨b, i * 256 + j, none⟩ (.bool true)) b (S ++ [((i : Int), (j : Int))]) := by
  obtain ⟨C, hc, hs, ha⟩ := h
  refine ⟨_, heap_setCell_at hc _, by simpa using hs, fun p q hp hq => ?_⟩
  rw [Array.getElem?_setIfInBounds]
  by_cases e : i * 256 + j = p * 256 + q
  · obtain rfl : i = p := by omega
    obtain rfl : j = q := by omega
    rw [if_pos rfl, if_pos (by rw [hs]; omega)]
    simp
  · rw [if_neg e, ha p q hp hq]
    congr 2
    rw [decide_eq_decide, List.mem_append, List.mem_singleton]
    constructor
    · exact .inl
    · rintro (h | h)
      · exact h
      · injection h with h1 h2
        omega
theorem HadAt.fr {w w' : World} {b : Nat} {S : List Ed} (h : HadAt w b S) (hb : w'.heap[b]? = w.heap[b]?) : HadAt w' b S := by
  obtain ⟨C, hc, r⟩ := h
  exact ⟨C, hb.trans hc, r⟩
/-- How many come ahead of a place. -/
def cntA (N : List Ed) (i k : Int) : Nat := (N.filter fun x => decide (Ahead x (i, k))).length
theorem cntA_step {N : List Ed} (hn : N.Nodup) (i k : Int) : cntA N i (k + 1) = cntA N i k + (if (i, k) ∈ N then 1 else 0) := by
  induction N with
  | nil => simp [cntA]
  | cons x T ih =>
    obtain ⟨hx, hT⟩ := List.nodup_cons.1 hn
    have ih := ih hT
    have h1 : cntA (x :: T) i (k + 1) = cntA T i (k + 1) + (if Ahead x (i, k + 1) then 1 else 0) := by
      unfold cntA
      by_cases e : Ahead x (i, k + 1) <;> simp [e]
    have h2 : cntA (x :: T) i k = cntA T i k + (if Ahead x (i, k) then 1 else 0) := by
      unfold cntA
      by_cases e : Ahead x (i, k) <;> simp [e]
    rw [h1, h2, ih]
    by_cases e : x = (i, k)
    · subst e
      rw [if_neg hx, if_pos List.mem_cons_self, if_pos (by unfold Ahead; dsimp only; omega), if_neg (ahead_irr _)]
    · have h3 : ((i, k) ∈ x :: T) ↔ (i, k) ∈ T := by
        rw [List.mem_cons]
        exact ⟨fun h => h.elim (fun h => absurd h.symm e) id, .inr⟩
      have h4 : Ahead x (i, k + 1) ↔ Ahead x (i, k) := by
        unfold Ahead
        dsimp only
        constructor
        · intro h
          rcases h with h | ⟨h, h'⟩
          · exact .inl h
          · refine .inr ⟨h, ?_⟩
            have : x.2 ≠ k := fun e2 => e (Prod.ext h e2)
            omega
        · omega
      simp only [h3, h4]
      omega
theorem cntA_row {N : List Ed} (h : ∀ x ∈ N, x.2 < 256) (h0 : ∀ x ∈ N, 0 ≤ x.2) (i : Int) : cntA N i 256 = cntA N (i + 1) 0 := by
  unfold cntA
  congr 1
  refine List.filter_congr fun x hx => ?_
  rw [decide_eq_decide]
  have h1 := h x hx
  have h2 := h0 x hx
  unfold Ahead
  dsimp only
  omega
theorem cntA_all {N : List Ed} (h : ∀ x ∈ N, x.1 < 256) : cntA N 256 0 = N.length := by
  unfold cntA
  rw [List.filter_eq_self.2]
  intro x hx
  rw [decide_eq_true_eq]
  exact .inl (h x hx)
theorem cntA_zero {N : List Ed} (h : ∀ x ∈ N, 0 ≤ x.1 ∧ 0 ≤ x.2) : cntA N 0 0 = 0 := by
  unfold cntA
  rw [List.filter_eq_nil_iff.2]
  · rfl
  · intro x hx
    have := h x hx
    rw [decide_eq_true_eq]
    unfold Ahead
    dsimp only
    omega
theorem cntA_le (N : List Ed) (i k : Int) : cntA N i k ≤ N.length := List.length_filter_le _ _
end Go.Proofs.Ytfehlnmkeniniaa.E
