/- Lists in order, each edge once: no program. Conditions: none. -/
import Derived.Test.YtdlmkdldmiiaiaaItm
namespace Go.Proofs.Ytdlmkdldmiiaiaa.D
set_option linter.unusedVariables false
set_option linter.unusedSimpArgs false
theorem ahead_trans {x y z : Ed} (h : Ahead x y) (k : Ahead y z) : Ahead x z := by unfold Ahead at *; omega
theorem ahead_asymm {x y : Ed} (h : Ahead x y) : ¬ Ahead y x := by unfold Ahead at *; omega
theorem ahead_irr (x : Ed) : ¬ Ahead x x := by unfold Ahead; omega
def cpt (L : List Ed) : List Ed := L.foldl (fun acc x => if acc.getLast? = some x then acc else acc ++ [x]) []
theorem cpt_snoc (T : List Ed) (y : Ed) : cpt (T ++ [y]) = if (cpt T).getLast? = some y then cpt T else cpt T ++ [y] := by
  unfold cpt
  rw [List.foldl_append]
  rfl
theorem snoc_ind {P : List Ed → Prop} (h0 : P []) (h1 : ∀ T y, P T → P (T ++ [y])) : ∀ L, P L := by
  intro L
  have : ∀ n, ∀ L : List Ed, L.length = n → P L := by
    intro n
    induction n with
    | zero => intro L h; rw [List.length_eq_zero_iff.1 h]; exact h0
    | succ n ih =>
      intro L h
      have hne : L ≠ [] := by intro e; subst e; simp at h
      rw [← List.dropLast_concat_getLast hne]
      exact h1 _ _ (ih _ (by simp [h]))
  exact this _ L rfl
theorem cpt_last (T : List Ed) : (cpt T).getLast? = T.getLast? := by
  refine snoc_ind (P := fun T => (cpt T).getLast? = T.getLast?) rfl (fun T y ih => ?_) T
  rw [cpt_snoc]
  split
  · rename_i h; rw [h]; simp
  · simp
theorem cpt_len (T : List Ed) : (cpt T).length ≤ T.length := by
  refine snoc_ind (P := fun T => (cpt T).length ≤ T.length) (by simp [cpt]) (fun T y ih => ?_) T
  rw [cpt_snoc]
  split
  · simp; omega
  · simp; omega
theorem take_snoc {M : List Ed} {j : Nat} {y : Ed} (hy : M[j]? = some y) : M.take (j + 1) = M.take j ++ [y] := by
  rw [List.take_add_one, hy]; rfl
theorem cpt_succ {M : List Ed} {j : Nat} {x y : Ed} (hx : M[j]? = some x) (hy : M[j + 1]? = some y) : cpt (M.take (j + 1 + 1)) = if x = y then cpt (M.take (j + 1)) else cpt (M.take (j + 1)) ++ [y] := by
  rw [take_snoc hy, cpt_snoc, cpt_last]
  have : (M.take (j + 1)).getLast? = some x := by rw [take_snoc hx]; simp
  rw [this]
  simp
theorem cpt_one {M : List Ed} (h : M.length < 2) : cpt M = M := by
  match M, h with
  | [], _ => rfl
  | [x], _ => rfl
structure IsNorm (L N : List Ed) : Prop where
  rise : N.Pairwise Ahead
  mem : ∀ x, x ∈ N ↔ x ∈ L
theorem pair_nodup {N : List Ed} (h : N.Pairwise Ahead) : N.Nodup := h.imp (fun {a b} hab e => by subst e; exact ahead_irr _ hab)
theorem pair_order {N : List Ed} (h : N.Pairwise Ahead) : Order N := h.imp (fun {a b} hab => ahead_asymm hab)
theorem IsNorm.unique {L M N : List Ed} (h : IsNorm L M) (k : IsNorm L N) : M = N :=
  order_unique ((List.perm_ext_iff_of_nodup (pair_nodup h.rise) (pair_nodup k.rise)).2 fun x => (h.mem x).trans (k.mem x).symm) (pair_order h.rise) (pair_order k.rise)
theorem IsNorm.congr {L L' N : List Ed} (h : IsNorm L N) (e : ∀ x, x ∈ L ↔ x ∈ L') : IsNorm L' N := ⟨h.rise, fun x => (h.mem x).trans (e x)⟩
theorem cpt_norm {M : List Ed} (h : Order M) : IsNorm M (cpt M) := by
  have : Order M → IsNorm M (cpt M) := by
    refine snoc_ind (P := fun M => Order M → IsNorm M (cpt M)) (fun _ => ⟨List.Pairwise.nil, fun x => by simp [cpt]⟩) (fun T y ih ho => ?_) M
    obtain ⟨hT, _, hTy⟩ := List.pairwise_append.1 ho
    have ih := ih hT
    rw [cpt_snoc]
    by_cases hl : (cpt T).getLast? = some y
    · rw [if_pos hl]
      refine ⟨ih.rise, fun x => ?_⟩
      rw [ih.mem x, List.mem_append, List.mem_singleton]
      constructor
      · exact .inl
      · rintro (h | rfl)
        · exact h
        · rw [cpt_last] at hl; exact List.mem_of_getLast? hl
    · rw [if_neg hl]
      refine ⟨?_, fun x => by rw [List.mem_append, List.mem_append, ih.mem x]⟩
      rw [List.pairwise_append]
      refine ⟨ih.rise, List.pairwise_singleton _ _, fun a ha b hb => ?_⟩
      rw [List.mem_singleton] at hb
      subst hb
      have hab := hTy a ((ih.mem a).1 ha) b (by simp)
      by_cases hba : Ahead a b
      · exact hba
      · exfalso
        have e : a = b := ahead_tri a b hba hab
        subst e
        -- a stands in cpt T, and is not its last
        have hne : cpt T ≠ [] := by intro e; rw [e] at ha; cases ha
        have hz := List.getLast?_eq_some_getLast hne
        have hza : (cpt T).getLast hne ≠ a := fun e => hl (by rw [hz, e])
        rw [← List.dropLast_concat_getLast hne] at ha
        rcases List.mem_append.1 ha with h1 | h1
        · have hp := ih.rise
          rw [← List.dropLast_concat_getLast hne] at hp
          have := (List.pairwise_append.1 hp).2.2 a h1 _ (List.mem_singleton.2 rfl)
          exact hTy _ ((ih.mem _).1 (List.getLast_mem hne)) a (by simp) this
        · exact hza (List.mem_singleton.1 h1).symm
  exact this h
theorem getD_at {M : List Ed} {j : Nat} (h : j < M.length) : M.getD j (0, 0) = M[j] := by simp [List.getD, h]
/-- Where an edge is to stand: behind all that it does not come ahead of. -/
def posF (M : List Ed) (x : Ed) : Nat → Nat
  | 0 => 0
  | k + 1 => if Ahead x (M.getD k (0, 0)) then posF M x k else k + 1
def putF (M : List Ed) (x : Ed) (once : Bool) : List Ed :=
  let p := posF M x M.length
  if once = true ∧ 0 < p ∧ M.getD (p - 1) (0, 0) = x then M else M.take p ++ x :: M.drop p
theorem pos_le (M : List Ed) (x : Ed) : ∀ k, posF M x k ≤ k
  | 0 => Nat.le_refl _
  | k + 1 => by
    unfold posF
    split
    · exact Nat.le_succ_of_le (pos_le M x k)
    · exact Nat.le_refl _
theorem pos_back (M : List Ed) (x : Ed) : ∀ k j, posF M x k ≤ j → j < k → Ahead x (M.getD j (0, 0))
  | 0, j, _, h => by omega
  | k + 1, j, h1, h2 => by
    unfold posF at h1
    split at h1
    · rename_i ha
      rcases Nat.lt_or_ge j k with h | h
      · exact pos_back M x k j h1 h
      · obtain rfl : j = k := by omega
        exact ha
    · omega
theorem pos_ahead (M : List Ed) (x : Ed) : ∀ k, 0 < posF M x k → ¬ Ahead x (M.getD (posF M x k - 1) (0, 0))
  | 0, h => by simp [posF] at h
  | k + 1, h => by
    unfold posF at h ⊢
    split
    · rename_i ha
      rw [if_pos ha] at h
      exact pos_ahead M x k h
    · rename_i ha
      simpa using ha
theorem put_perm (M : List Ed) (x : Ed) : (putF M x false).Perm (x :: M) := by
  unfold putF
  simp only [Bool.false_eq_true, false_and, if_false]
  refine List.perm_middle.trans ?_
  rw [List.take_append_drop]
theorem mem_drop_pos {M : List Ed} {x q : Ed} (hq : q ∈ M.drop (posF M x M.length)) : Ahead x q := by
  obtain ⟨j, hj, rfl⟩ := List.mem_iff_getElem.1 hq
  rw [List.length_drop] at hj
  have := pos_back M x M.length (posF M x M.length + j) (by omega) (by omega)
  rw [List.getElem_drop]
  rwa [getD_at (by omega)] at this
theorem mem_take_pos {M : List Ed} {x q : Ed} (ho : Order M) (hq : q ∈ M.take (posF M x M.length)) : ¬ Ahead x q := by
  obtain ⟨j, hj, rfl⟩ := List.mem_take_iff_getElem.1 hq
  have hl := pos_le M x M.length
  have h0 := pos_ahead M x M.length (by omega)
  rw [getD_at (by omega)] at h0
  rcases Nat.lt_or_ge j (posF M x M.length - 1) with h | h
  · have := List.pairwise_iff_getElem.1 ho j (posF M x M.length - 1) (by omega) (by omega) h
    intro ha
    unfold Ahead at *
    omega
  · have e : j = posF M x M.length - 1 := by omega
    subst e
    exact h0
theorem put_order {M : List Ed} (ho : Order M) (x : Ed) : Order (putF M x false) := by
  unfold putF
  simp only [Bool.false_eq_true, false_and, if_false]
  unfold Order
  rw [List.pairwise_append]
  refine ⟨ho.sublist (List.take_sublist _ _), List.pairwise_cons.2 ⟨fun q hq => ahead_asymm (mem_drop_pos hq), ho.sublist (List.drop_sublist _ _)⟩, fun a ha b hb => ?_⟩
  have hax := mem_take_pos ho ha
  rcases List.mem_cons.1 hb with rfl | hb
  · exact hax
  · have := mem_drop_pos hb
    unfold Ahead at *
    omega
theorem put_norm {L M : List Ed} (h : IsNorm L M) (x : Ed) : IsNorm (L ++ [x]) (putF M x true) := by
  have ho := pair_order h.rise
  unfold putF
  by_cases hc : 0 < posF M x M.length ∧ M.getD (posF M x M.length - 1) (0, 0) = x
  · simp only [true_and, if_pos hc]
    refine ⟨h.rise, fun y => ?_⟩
    rw [h.mem y, List.mem_append, List.mem_singleton]
    constructor
    · exact .inl
    · rintro (hy | rfl)
      · exact hy
      · have hl := pos_le M y M.length
        rw [← h.mem, ← hc.2, getD_at (by omega)]
        rw [getD_at (by omega)] at hc
        rw [hc.2]
        rw [← hc.2]
        exact List.getElem_mem _
  · simp only [true_and, if_neg hc]
    refine ⟨?_, fun y => ?_⟩
    · rw [List.pairwise_append]
      have hlt : ∀ a ∈ M.take (posF M x M.length), Ahead a x := fun a ha => by
        have h1 := mem_take_pos ho ha
        by_cases h2 : Ahead a x
        · exact h2
        · exfalso
          have e : a = x := ahead_tri a x h2 h1
          subst e
          obtain ⟨j, hj, e⟩ := List.mem_take_iff_getElem.1 ha
          have hl := pos_le M a M.length
          have h0 := pos_ahead M a M.length (by omega)
          rw [getD_at (by omega)] at h0
          rcases Nat.lt_or_ge j (posF M a M.length - 1) with hh | hh
          · have := List.pairwise_iff_getElem.1 h.rise j (posF M a M.length - 1) (by omega) (by omega) hh
            rw [e] at this
            exact h0 this
          · have e2 : j = posF M a M.length - 1 := by omega
            subst e2
            exact hc ⟨by omega, by rw [getD_at (by omega)]; exact e⟩
      refine ⟨h.rise.sublist (List.take_sublist _ _), List.pairwise_cons.2 ⟨fun q hq => mem_drop_pos hq, h.rise.sublist (List.drop_sublist _ _)⟩, fun a ha b hb => ?_⟩
      rcases List.mem_cons.1 hb with rfl | hb
      · exact hlt a ha
      · exact ahead_trans (hlt a ha) (mem_drop_pos hb)
    · rw [List.mem_append, List.mem_cons, List.mem_append, List.mem_singleton, ← h.mem y]
      have : y ∈ M ↔ y ∈ M.take (posF M x M.length) ∨ y ∈ M.drop (posF M x M.length) := by
        rw [← List.mem_append, List.take_append_drop]
      rw [this]
      constructor
      · rintro (h | h | h)
        · exact .inl (.inl h)
        · exact .inr h
        · exact .inl (.inr h)
      · rintro ((h | h) | h)
        · exact .inl h
        · exact .inr (.inr h)
        · exact .inr (.inl h)
def nrm (L : List Ed) : List Ed := L.foldl (fun M x => putF M x true) []
theorem nrm_snoc (L : List Ed) (x : Ed) : nrm (L ++ [x]) = putF (nrm L) x true := by simp [nrm, List.foldl_append]
theorem nrm_norm (L : List Ed) : IsNorm L (nrm L) := by
  refine snoc_ind (P := fun L => IsNorm L (nrm L)) ⟨List.Pairwise.nil, fun x => by simp [nrm]⟩ (fun T y ih => ?_) L
  rw [nrm_snoc]
  exact put_norm ih y
theorem nrm_eq {L N : List Ed} (h : IsNorm L N) : N = nrm L := h.unique (nrm_norm L)
theorem put_len (M : List Ed) (x : Ed) (o : Bool) : (putF M x o).length ≤ M.length + 1 := by
  unfold putF
  dsimp only
  split
  · omega
  · simp; omega
theorem nrm_len (L : List Ed) : (nrm L).length ≤ L.length := by
  refine snoc_ind (P := fun L => (nrm L).length ≤ L.length) (by simp [nrm]) (fun T y ih => ?_) L
  rw [nrm_snoc]
  have := put_len (nrm T) y true
  simp
  omega
def swp (x : Ed) : Ed := (x.2, x.1)
def rvs (L : List Ed) : List Ed := L.foldl (fun M x => putF M (swp x) false) []
theorem rvs_snoc (L : List Ed) (x : Ed) : rvs (L ++ [x]) = putF (rvs L) (swp x) false := by simp [rvs, List.foldl_append]
theorem rvs_perm (L : List Ed) : (rvs L).Perm (L.map swp) := by
  refine snoc_ind (P := fun L => (rvs L).Perm (L.map swp)) (List.Perm.refl _) (fun T y ih => ?_) L
  rw [rvs_snoc, List.map_append]
  refine (put_perm _ _).trans ?_
  exact ((List.Perm.cons _ ih).trans (List.perm_append_singleton _ _).symm)
theorem rvs_order (L : List Ed) : Order (rvs L) := by
  refine snoc_ind (P := fun L => Order (rvs L)) List.Pairwise.nil (fun T y ih => ?_) L
  rw [rvs_snoc]
  exact put_order ih _
theorem rvs_eq {L R : List Ed} (h : R.Perm (L.map swp)) (ho : Order R) : R = rvs L := order_unique (h.trans (rvs_perm L).symm) ho (rvs_order L)
theorem rvs_len (L : List Ed) : (rvs L).length = L.length := by rw [(rvs_perm L).length_eq, List.length_map]
def outL (L : List Ed) (v : Int) : List Int := (L.filter fun x => x.1 == v).map Prod.snd
def degO (L : List Ed) (v : Int) : Int := (L.filter fun x => x.1 == v).length
def degI (L : List Ed) (v : Int) : Int := (L.filter fun x => x.2 == v).length
def inR (n v : Int) : Bool := decide (0 ≤ v ∧ v < n)
def mayR (n : Int) : Bool := decide (1 ≤ n ∧ n ≤ 256)
def badE (n : Int) (x : Ed) : Bool := !(inR n x.1) || !(inR n x.2) || (x.1 == x.2)
def badN (n : Int) (L : List Ed) : Bool := !(mayR n) || L.any (badE n)
def normC (n : Int) (L : List Ed) : Int × List Ed := if badN n L = true then (2, []) else if 4096 < (nrm L).length then (3, []) else (0, nrm L)
end Go.Proofs.Ytdlmkdldmiiaiaa.D
