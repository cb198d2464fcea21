/- Ranks: how great they are; on a ring all are the same. Plain. Conditions: those that each theorem names. -/
import Derived.Test.YtpmgkmodpneiiaaMad
namespace Go.Proofs.Ytpmgkmodpneiiaa.E
set_option linter.unusedVariables false
set_option linter.unusedSimpArgs false
def sumN (out : List Nat) (n : Nat) : Nat := ((List.range n).map fun v => at_ out v).sum
theorem job_two {n : Nat} {L : List Ed} (r : Nat) : (job n L 2 (r : Int)).1 = ranks (ofOut n L) r := by unfold job; rw [if_neg (by decide), if_pos rfl, Int.toNat_natCast]
theorem chk_two {n r : Nat} (h1 : 1 ≤ n) (h2 : n ≤ 60) (hr : 1 ≤ r) (hr2 : r ≤ 64) : chk 2 (r : Int) 0 (n : Int) = 0 := by
  unfold chk okN argOk
  rw [if_pos]
  simp
  omega
/-- The sum of what each gets, over all. -/
theorem total_sum {adj : List (List Int)} {now : List Nat} {n : Nat} (hn : adj.length = n) (hr : Rows adj) : ∀ k, k ≤ n → ((List.range n).map fun v => total adj now v k).sum ≤ ((List.range k).map fun u => at_ now u).sum
  | 0, _ => by
    have : (fun v => total adj now v 0) = fun _ => 0 := by funext v; rfl
    rw [this, sum_zero _ n (fun _ _ => rfl)]
    exact Nat.zero_le _
  | k + 1, hk => by
    have e : (fun v => total adj now v (k + 1)) = fun v => total adj now v k + often (adj.getD k []) v * share now (adj.getD k []) k := by funext v; exact total_succ adj now v k
    rw [e, sum_add, List.range_succ, List.map_append, List.sum_append]
    have ih := total_sum (now := now) hn hr k (by omega)
    have hrow := rows_row hr k
    have hof : ∀ (r : List Int) (q : Nat), (∀ x ∈ r, 0 ≤ x ∧ x < (n : Int)) → ((List.range n).map fun v => often r v * q).sum = r.length * q := by
      intro r q
      induction r with
      | nil => intro _; rw [sum_zero _ n (fun v _ => by simp [often])]; simp
      | cons x r ih =>
        intro h
        have hx := h x (List.mem_cons_self ..)
        have e : (fun v => often (x :: r) v * q) = fun (v : Nat) => (if (v : Int) = x then q else 0) + often r v * q := by
          funext v
          unfold often
          by_cases c : (v : Int) = x
          · rw [if_pos c, ← c, List.count_cons_self, Nat.add_mul]; omega
          · rw [if_neg c, List.count_cons_of_ne (fun e => c e.symm)]; omega
        rw [e, sum_add, ih (fun y hy => h y (List.mem_cons_of_mem _ hy)), sum_one _ x.toNat n (by omega) (fun u hu => by rw [if_neg (by omega)]), if_pos (by omega), List.length_cons, Nat.add_mul]
        omega
    rw [hof _ _ (by rw [← hn]; exact hrow)]
    have hsh : (adj.getD k []).length * share now (adj.getD k []) k ≤ at_ now k := by
      unfold share
      rw [Nat.mul_comm]
      exact Nat.div_mul_le_self _ _
    have h9 : ([k].map fun u => at_ now u).sum = at_ now k := by simp
    rw [h9]
    omega
theorem sum_le {f g : Nat → Nat} : ∀ n, (∀ v, v < n → f v ≤ g v) → ((List.range n).map f).sum ≤ ((List.range n).map g).sum
  | 0, _ => Nat.le_refl _
  | n + 1, h => by
    rw [List.range_succ, List.map_append, List.map_append, List.sum_append, List.sum_append]
    have := sum_le n (fun v hv => h v (by omega))
    have := h n (by omega)
    simp
    omega
theorem one_le_sum {f : Nat → Nat} : ∀ n v, v < n → f v ≤ ((List.range n).map f).sum
  | 0, v, h => by omega
  | n + 1, v, h => by
    rw [List.range_succ, List.map_append, List.sum_append]
    by_cases e : v = n
    · subst e; simp
    · have := one_le_sum (f := f) n v (by omega)
      omega
set_option maxRecDepth 100000 in
/-- Never more than One for each, together; never less than what each has of itself. -/
theorem ranks_sum {adj : List (List Int)} {n : Nat} (hn : adj.length = n) (hn2 : n ≤ 60) (hr : Rows adj) : ∀ r, sumN (ranks adj r) n ≤ n * 4294967296 ∧ ∀ v, v < n → 644245094 ≤ at_ (ranks adj r) v
  | 0 => by
    have hv : ∀ v, v < n → at_ (ranks adj 0) v = 4294967296 := fun v hv => by simp [ranks, iter, at_, List.getD, hv, hn]
    refine ⟨?_, fun v h => by rw [hv v h]; decide⟩
    unfold sumN
    have : ∀ m, m ≤ n → ((List.range m).map fun v => at_ (ranks adj 0) v).sum ≤ m * 4294967296 := by
      intro m
      induction m with
      | zero => intro _; simp
      | succ m ih =>
        intro hm
        rw [List.range_succ, List.map_append, List.sum_append]
        have := ih (by omega)
        have := hv m (by omega)
        simp
        omega
    exact this n (Nat.le_refl _)
  | r + 1 => by
    obtain ⟨ih, _⟩ := ranks_sum hn hn2 hr r
    obtain ⟨now, hnow⟩ : ∃ x, ranks adj r = x := ⟨_, rfl⟩
    have hrs : ranks adj (r + 1) = nextRT adj now := by rw [← hnow]; rfl
    rw [hnow] at ih
    rw [hrs]
    have ht := total_sum (now := now) hn hr n (Nat.le_refl _)
    have hsum : ((List.range n).map fun v => total adj now v n).sum ≤ n * 4294967296 := Nat.le_trans ht ih
    have hlt : ∀ v, v < n → total adj now v n < 1000000000000 := fun v hv => by
      have := one_le_sum (f := fun v => total adj now v n) n v hv
      omega
    have hat : ∀ v, v < n → at_ (nextRT adj now) v = 644245094 + total adj now v n * 850 / 1000 := fun v hv => by
      have h1 := sumTo_at hr now v (by rw [hn]; exact hv) n
      have h2 := sumTo_small adj now n v (by rw [sumTo_len, hn]; exact hv)
      have h3 := hlt v hv
      rw [Nat.mod_eq_of_lt h2, Nat.mod_eq_of_lt (by unfold M64; omega)] at h1
      have h4 : at_ (nextRT adj now) v = damped (at_ (sumTo adj now n) v) := by
        unfold nextRT
        rw [hn]
        have hl : v < (sumTo adj now n).length := by rw [sumTo_len, hn]; exact hv
        simp [at_, List.getD, hl]
      rw [h4, h1]
      unfold damped M64
      rw [Nat.mod_eq_of_lt (a := total adj now v n * 850) (by omega), Nat.mod_eq_of_lt (by omega)]
    refine ⟨?_, fun v hv => by rw [hat v hv]; exact Nat.le_add_right _ _⟩
    unfold sumN
    have e1 : ((List.range n).map fun v => at_ (nextRT adj now) v).sum ≤ ((List.range n).map fun v => 644245094 + total adj now v n * 850 / 1000).sum := sum_le n (fun v hv => by rw [hat v hv]; exact Nat.le_refl _)
    have e2 : ∀ m (f : Nat → Nat), ((List.range m).map fun v => 644245094 + f v * 850 / 1000).sum * 1000 ≤ m * 644245094000 + ((List.range m).map f).sum * 850 := by
      intro m f
      induction m with
      | zero => simp
      | succ m ih =>
        rw [List.range_succ, List.map_append, List.sum_append, List.map_append, List.sum_append]
        have hq := Nat.div_mul_le_self (f m * 850) 1000
        have s1 : ([m].map fun v => 644245094 + f v * 850 / 1000).sum = 644245094 + f m * 850 / 1000 := by simp
        have s2 : ([m].map f).sum = f m := by simp
        rw [s1, s2, Nat.add_mul, Nat.add_mul, Nat.add_mul, Nat.add_mul]
        generalize ((List.range m).map fun v => 644245094 + f v * 850 / 1000).sum = A at *
        generalize ((List.range m).map f).sum = B at *
        generalize f m * 850 / 1000 = q at *
        omega
    have e3 := e2 n (fun v => total adj now v n)
    omega
/-! ### A ring -/
def ringN (n : Nat) : Nat → List Ed := fun k => (List.range k).map fun v : Nat => ((v : Int), ((v : Int) + 1) % (n : Int))
theorem ring_fix (n : Nat) : nrm (ringN n n) = ringN n n := by
  refine (nrm_eq ⟨?_, fun x => Iff.rfl⟩).symm
  unfold ringN
  rw [List.pairwise_map]
  exact List.pairwise_lt_range.imp (fun {a b} h => .inl (by dsimp only; omega))
theorem ring_succ (n k : Nat) : ringN n (k + 1) = ringN n k ++ [((k : Int), ((k : Int) + 1) % (n : Int))] := by
  unfold ringN
  rw [List.range_succ, List.map_append]
  rfl
theorem ring_good {n : Nat} (h1 : 2 ≤ n) (h2 : n ≤ 60) : Good n (ringN n n) := by
  refine ⟨by omega, h2, by simp [ringN]; omega, fun e he => ?_, ring_fix n⟩
  unfold ringN at he
  obtain ⟨v, hv, rfl⟩ := List.mem_map.1 he
  have := List.mem_range.1 hv
  dsimp only
  have h3 := Int.emod_nonneg ((v : Int) + 1) (show (n : Int) ≠ 0 by omega)
  have h4 := Int.emod_lt_of_pos ((v : Int) + 1) (show 0 < (n : Int) by omega)
  refine ⟨by omega, by omega, h3, h4, ?_⟩
  by_cases c : v + 1 = n
  · have : ((v : Int) + 1) % (n : Int) = 0 := by rw [show (v : Int) + 1 = (n : Int) by omega]; exact Int.emod_self
    omega
  · rw [Int.emod_eq_of_lt (by omega) (by omega)]
    omega
/-- Each begins one, and each ends one. -/
theorem ring_begins (n v : Nat) : ∀ k, begins (ringN n k) v = if v < k then 1 else 0
  | 0 => by rw [if_neg (by omega)]; rfl
  | k + 1 => by
    have ih := ring_begins n v k
    unfold begins at ih ⊢
    rw [ring_succ, List.filter_append, List.length_append, ih]
    by_cases c : v = k
    · rw [if_neg (by omega), if_pos (by omega), List.filter_cons_of_pos (by simp [c])]; rfl
    · rw [List.filter_cons_of_neg (by simp; omega)]
      by_cases d : v < k
      · rw [if_pos d, if_pos (by omega)]; rfl
      · rw [if_neg d, if_neg (by omega)]; rfl
theorem ring_ends {n v : Nat} (hv : v < n) : ∀ k, k ≤ n → ((ringN n k).filter fun e => e.2 == (v : Int)).length = if (1 ≤ v ∧ v ≤ k) ∨ (v = 0 ∧ k = n) then 1 else 0
  | 0, _ => by rw [if_neg (by omega)]; rfl
  | k + 1, hk => by
    have ih := ring_ends hv k (by omega)
    rw [ring_succ, List.filter_append, List.length_append, ih]
    have hmod : ((k : Int) + 1) % (n : Int) = if k + 1 = n then 0 else (k : Int) + 1 := by
      by_cases c : k + 1 = n
      · rw [if_pos c, show (k : Int) + 1 = (n : Int) by omega]; exact Int.emod_self
      · rw [if_neg c]; exact Int.emod_eq_of_lt (by omega) (by omega)
    rw [hmod]
    by_cases c : k + 1 = n
    · rw [if_pos c]
      by_cases d : v = 0
      · rw [if_neg (by omega), if_pos (.inr ⟨d, c⟩), List.filter_cons_of_pos (by simp [d])]; rfl
      · rw [if_pos (.inl (by omega)), if_pos (.inl (by omega)), List.filter_cons_of_neg (by simp; omega)]; rfl
    · rw [if_neg c]
      by_cases d : v = k + 1
      · rw [if_neg (by omega), if_pos (.inl (by omega)), List.filter_cons_of_pos (by simp [d])]; rfl
      · rw [List.filter_cons_of_neg (by simp; omega)]
        by_cases e : 1 ≤ v ∧ v ≤ k
        · rw [if_pos (.inl e), if_pos (.inl (by omega))]; rfl
        · rw [if_neg (by omega), if_neg (by omega)]; rfl
theorem ring_one {n : Nat} (v : Nat) (hv : v < n) : begins (ringN n n) v = 1 ∧ ((ringN n n).filter fun e => e.2 == (v : Int)).length = 1 := by
  refine ⟨by rw [ring_begins, if_pos hv], ?_⟩
  rw [ring_ends hv n (Nat.le_refl _)]
  by_cases c : v = 0
  · rw [if_pos (.inr ⟨c, rfl⟩)]
  · rw [if_pos (.inl (by omega))]
theorem const_sum (x : Nat) (v : Int) : ∀ (L : List Ed) (f : Ed → Nat), (∀ e ∈ L, f e = x) → (L.map fun e => if e.2 = v then f e else 0).sum = (L.filter fun e => e.2 == v).length * x
  | [], _, _ => by simp
  | e :: L, f, h => by
    have ih := const_sum x v L f (fun y hy => h y (List.mem_cons_of_mem _ hy))
    rw [List.map_cons, List.sum_cons, ih]
    by_cases c : e.2 = v
    · rw [if_pos c, h e (List.mem_cons_self ..), List.filter_cons_of_pos (by simpa using c), List.length_cons, Nat.add_mul]; omega
    · rw [if_neg c, List.filter_cons_of_neg (by simpa using c)]; omega
theorem ring_same {n : Nat} (h1 : 2 ≤ n) (h2 : n ≤ 60) : ∀ r, ∃ x, ∀ v, v < n → at_ (ranks (ofOut n (ringN n n)) r) v = x
  | 0 => ⟨4294967296, fun v hv => by
    have := (ofOut_row (ring_good h1 h2).edges).1
    simp [ranks, iter, at_, List.getD, hv, this]⟩
  | r + 1 => by
    obtain ⟨x, hx⟩ := ring_same h1 h2 r
    have hg := ring_good h1 h2
    have hal := (ofOut_row hg.edges).1
    obtain ⟨now, hnow⟩ : ∃ x, ranks (ofOut n (ringN n n)) r = x := ⟨_, rfl⟩
    have hnl : now.length = n := by rw [← hnow, ranks_len, hal]
    have hrs : ranks (ofOut n (ringN n n)) (r + 1) = nextR now (ringN n n) := by rw [nextR_eq hg.edges hnl, ← hnow]; rfl
    rw [hnow] at hx
    rw [hrs]
    refine ⟨damped (x % M64), fun v hv => ?_⟩
    have hs := sumR_at (now := now) hg.edges v hv
    have hsm := sumR_small n now (ringN n n) v (by rw [sumR_len]; exact hv)
    rw [Nat.mod_eq_of_lt hsm, const_sum x (v : Int) (ringN n n) (fun e => at_ now e.1.toNat / begins (ringN n n) e.1.toNat) (fun e he => by
      have hi := hg.edges e he
      have := (ring_one (n := n) e.1.toNat (by omega)).1
      rw [this, Nat.div_one, hx _ (by omega)]), (ring_one v hv).2, Nat.one_mul] at hs
    have hl : v < (sumR n now (ringN n n)).length := by rw [sumR_len]; exact hv
    unfold nextR
    rw [hnl]
    have e : at_ ((sumR n now (ringN n n)).map damped) v = damped (at_ (sumR n now (ringN n n)) v) := by simp [at_, List.getD, hl]
    rw [e, hs]
theorem ranks_n {n : Nat} {L : List Ed} (h : Good n L) (r : Nat) : (ranks (ofOut n L) r).length = n := by rw [ranks_len, (ofOut_row h.edges).1]
end Go.Proofs.Ytpmgkmodpneiiaa.E
