/- made's plain law: a part of a normal list fits. -/
import Derived.Test.YtdlmkdldmiiaiaaMde
namespace Go.Proofs.Ytdlmkdldmiiaiaa.E
open Go.RowKit Go.Sort Go.Shelf
open Go.Proofs.Ytdlmkdldmiiaiaa.Ma Go.Proofs.Ytdlmkdldmiiaiaa.By Go.Proofs.Ytdlmkdldmiiaiaa.Enc
set_option linter.unusedVariables false
set_option linter.unusedSimpArgs false
theorem rises_of : ∀ (L : List Int) (last : Int), (∀ x ∈ L, last < x) → L.Pairwise (· < ·) → rises last L = true
  | [], _, _, _ => rfl
  | n :: r, last, h, hp => by
    rw [rises, if_neg (by have := h n List.mem_cons_self; omega)]
    rw [List.pairwise_cons] at hp
    exact rises_of r n hp.1 hp.2
theorem rows_rise {M : List Ed} (h : M.Pairwise D.Ahead) (v : Int) : (rowsOf M v).Pairwise (· < ·) := by
  unfold rowsOf
  rw [List.pairwise_map]
  have h1 : (M.filter fun x => decide (x.1 = v)).Pairwise D.Ahead := h.filter _
  refine List.Pairwise.imp_of_mem (fun {a b} ha hb hab => ?_) h1
  have e1 : a.1 = v := by simpa using (List.mem_filter.1 ha).2
  have e2 : b.1 = v := by simpa using (List.mem_filter.1 hb).2
  unfold D.Ahead at hab
  omega
theorem rows_mem {M : List Ed} {v y : Int} (h : y ∈ rowsOf M v) : (v, y) ∈ M := by
  unfold rowsOf at h
  obtain ⟨a, ha, rfl⟩ := List.mem_map.1 h
  have e1 : a.1 = v := by simpa using (List.mem_filter.1 ha).2
  rw [← e1]
  exact (List.mem_filter.1 ha).1
theorem compact_lt {L : List Int} (h : L.Pairwise (· < ·)) : Lib.compact L = L := by
  refine Lib.compact_all L fun j hj => ?_
  unfold Lib.keeps
  cases j with
  | zero => simp
  | succ i =>
    have h1 := List.pairwise_iff_getElem.1 h i (i + 1) (by omega) hj (by omega)
    simp [hj, show i < L.length by omega]
    omega
theorem mk_grid {M : List Ed} (h : M.Pairwise D.Ahead) (lo : Int) (n : Nat) : mkO lo n M = gridOf lo n M := by
  unfold mkO
  refine (List.map_congr_left fun r hr => ?_).trans (List.map_id _)
  unfold gridOf at hr
  obtain ⟨j, _, rfl⟩ := List.mem_map.1 hr
  have hp := rows_rise h (lo + (j : Int))
  rw [srtI_sorted (hp.imp fun h => Int.le_of_lt h), compact_lt hp]
  rfl
theorem count_or {p q : Ed → Bool} (hd : ∀ x, ¬ (p x = true ∧ q x = true)) : ∀ M : List Ed, (M.countP fun x => p x || q x) = M.countP p + M.countP q
  | [] => rfl
  | x :: r => by
    rw [List.countP_cons, List.countP_cons, List.countP_cons, count_or hd r]
    have := hd x
    cases hp : p x <;> cases hq : q x <;> simp_all <;> omega
theorem grid_succ (lo : Int) (n : Nat) (M : List Ed) : gridOf lo (n + 1) M = gridOf lo n M ++ [rowsOf M (lo + (n : Int))] := by
  unfold gridOf
  rw [List.range_succ, List.map_append]
  rfl
theorem grid_many (lo : Int) (M : List Ed) : ∀ n : Nat, manyC (gridOf lo n M) = M.countP fun x => decide (lo ≤ x.1 ∧ x.1 < lo + (n : Int))
  | 0 => by
    rw [show (gridOf lo 0 M) = [] from rfl]
    symm
    show _ = 0
    rw [List.countP_eq_zero]
    intro x _
    simp
  | n + 1 => by
    rw [grid_succ, manyC_snoc, grid_many lo M n]
    have e : (rowsOf M (lo + (n : Int))).length = M.countP fun x => decide (x.1 = lo + (n : Int)) := by
      unfold rowsOf
      rw [List.length_map, List.countP_eq_length_filter]
    rw [e, ← count_or (fun x => by simp; omega)]
    congr 1
    funext x
    rw [Bool.eq_iff_iff]
    simp
    omega
theorem fits_grid {M : List Ed} {lo hi : Int} (h : M.Pairwise D.Ahead) (hm : ∀ y ∈ M, 0 ≤ y.1 ∧ y.1 < 256 ∧ 0 ≤ y.2 ∧ y.2 < 256 ∧ y.1 ≠ y.2) (hl : M.length ≤ 4096) (h0 : 0 ≤ lo) (h1 : lo < hi) (h2 : hi ≤ 256) : Fits lo hi (gridOf lo (hi - lo).toNat M) where
  h0 := h0
  h1 := h1
  h2 := h2
  len := by rw [grid_len]; omega
  many := by rw [grid_many]; exact Nat.le_trans List.countP_le_length hl
  each := fun j L hj => by
    have hjn : j < (hi - lo).toNat := by have := (List.getElem?_eq_some_iff.1 hj).1; rwa [grid_len] at this
    rw [grid_at hjn] at hj
    obtain rfl := Option.some.inj hj
    have hr : ∀ y ∈ rowsOf M (lo + (j : Int)), 0 ≤ y ∧ y < 256 ∧ y ≠ lo + (j : Int) := fun y hy => by
      have := hm _ (rows_mem hy)
      dsimp only at this
      omega
    unfold listC
    rw [rises_of _ _ (fun y hy => by have := hr y hy; omega) (rows_rise h _)]
    have e1 : (rowsOf M (lo + (j : Int))).contains (lo + (j : Int)) = false := by
      rw [Bool.eq_false_iff]
      intro hc
      rw [List.contains_iff_mem] at hc
      exact (hr _ hc).2.2 rfl
    rw [e1]
    unfold lastC
    cases hL : rowsOf M (lo + (j : Int)) with
    | nil => rfl
    | cons a r =>
      have hne : (a :: r) ≠ [] := by simp
      have := hr _ (by rw [hL]; exact List.getLast_mem hne)
      rw [List.getLastD_eq_getLast?, List.getLast?_eq_some_getLast hne]
      simp
      omega
theorem made_rise (x : Int) (P : List Ed) : (madeL x P).Pairwise D.Ahead := (D.nrm_norm (P.map (D.someE (madeN x)))).rise
/-- The shard that the law makes. -/
def madeO (x lo hi : Int) (P : List Ed) : List (List Int) := gridOf lo (hi - lo).toNat (madeL x P)
theorem made_mk {x lo hi : Int} {P : List Ed} (hx : 0 ≤ x ∧ x ≤ 255) (h : 0 ≤ lo ∧ lo < hi ∧ hi ≤ madeN x) : mkS lo hi (madeL x P) = (lo, hi, madeO x lo hi P) := by
  have hn := madeN_in hx
  unfold mkS mayC
  rw [decide_eq_true h.1, decide_eq_true h.2.1, decide_eq_true (show hi ≤ 256 by omega), if_pos (by rfl), mk_grid (made_rise x P)]
  rfl
theorem made_fits {x lo hi : Int} {P : List Ed} (hx : 0 ≤ x ∧ x ≤ 255) (h : 0 ≤ lo ∧ lo < hi ∧ hi ≤ madeN x) (hl : P.length ≤ 400) : Fits lo hi (madeO x lo hi P) := by
  have hn := madeN_in hx
  refine fits_grid (made_rise x P) (fun y hy => by have := made_mem hx P y hy; omega) (by have := made_len x P; omega) h.1 h.2.1 (by omega)
end Go.Proofs.Ytdlmkdldmiiaiaa.E
