/- Ranks, as the program makes them, and as the document's rounds do. Plain. Conditions: those that each theorem names. -/
import Derived.Test.YtpmgkmodpneiiaaCor
namespace Go.Proofs.Ytpmgkmodpneiiaa.E
set_option linter.unusedVariables false
set_option linter.unusedSimpArgs false
/-- To one number q is added. -/
def give (q : Nat) (s : List Nat) (v : Nat) : List Nat := s.set v ((at_ s v + q) % M64)
def share (now : List Nat) (l : List Int) (u : Nat) : Nat := at_ now u / l.length
def giveRow (now : List Nat) (l : List Int) (u : Nat) (s : List Nat) : List Nat := l.foldl (fun s v => give (share now l u) s v.toNat) s
def sumTo (out : List (List Int)) (now : List Nat) (k : Nat) : List Nat := (List.range k).foldl (fun s u => giveRow now (out.getD u []) u s) (List.replicate out.length 0)
def damped (x : Nat) : Nat := (644245094 + (x * 850) % M64 / 1000) % M64
def nextRT (out : List (List Int)) (now : List Nat) : List Nat := (sumTo out now out.length).map damped
def ranks (out : List (List Int)) (r : Nat) : List Nat := iter (nextRT out) (List.replicate out.length 4294967296) r
theorem sumTo_succ (out : List (List Int)) (now : List Nat) (k : Nat) : sumTo out now (k + 1) = giveRow now (out.getD k []) k (sumTo out now k) := by
  unfold sumTo
  rw [List.range_succ, List.foldl_append]
  rfl
theorem give_len (q : Nat) (s : List Nat) (v : Nat) : (give q s v).length = s.length := by unfold give; simp
theorem giveRow_len (now : List Nat) (l : List Int) (u : Nat) (s : List Nat) : (giveRow now l u s).length = s.length := by
  unfold giveRow
  exact fold_inv0 (fun _ o => List.length o = s.length) l s rfl (fun _ o e h _ => (give_len _ o _).trans h)
theorem sumTo_len (out : List (List Int)) (now : List Nat) : ∀ k, (sumTo out now k).length = out.length
  | 0 => by simp [sumTo]
  | k + 1 => by rw [sumTo_succ, giveRow_len]; exact sumTo_len out now k
theorem give_at {q : Nat} {s : List Nat} {x : Nat} (hx : x < s.length) (v : Nat) : at_ (give q s x) v = if v = x then (at_ s v + q) % M64 else at_ s v := by
  unfold give
  rw [at_set hx]
  by_cases e : v = x
  · subst e; simp
  · rw [if_neg e, if_neg e]
/-- How often v is in a row. -/
def often (r : List Int) (v : Nat) : Nat := r.count (v : Int)
theorem giveRow_at {now : List Nat} {l : List Int} {u : Nat} {s : List Nat} {n : Nat} (hs : s.length = n) (hl : ∀ x ∈ l, 0 ≤ x ∧ x < (n : Int)) (v : Nat) (hv : v < n) :
    at_ (giveRow now l u s) v % M64 = (at_ s v + often l v * share now l u) % M64 := by
  unfold giveRow
  generalize share now l u = q
  have := fold_inv0 (f := fun (s : List Nat) (v : Int) => give q s v.toNat) (fun done o => o.length = n ∧ at_ o v % M64 = (at_ s v + often done v * q) % M64) l s ⟨hs, by simp [often]⟩ (fun done o x h hx => by
    obtain ⟨h1, h2⟩ := h
    obtain ⟨x0, x1⟩ := hl x hx
    refine ⟨(give_len _ o _).trans h1, ?_⟩
    rw [give_at (by omega)]
    unfold often at h2 ⊢
    rw [List.count_append]
    by_cases e : v = x.toNat
    · have ex : x = (v : Int) := by omega
      rw [if_pos e, ex]
      have : [(v : Int)].count (v : Int) = 1 := by simp
      rw [this, Nat.add_mul, Nat.one_mul, ← Nat.add_assoc, Nat.mod_mod, Nat.add_mod, h2, ← Nat.add_mod]
    · have ex : [x].count (v : Int) = 0 := by
        rw [List.count_cons_of_ne (by omega)]
        rfl
      rw [if_neg e, ex, Nat.add_zero]
      exact h2)
  exact this.2
def total (out : List (List Int)) (now : List Nat) (v k : Nat) : Nat := ((List.range k).map fun u => often (out.getD u []) v * share now (out.getD u []) u).sum
theorem total_succ (out : List (List Int)) (now : List Nat) (v k : Nat) : total out now v (k + 1) = total out now v k + often (out.getD k []) v * share now (out.getD k []) k := by
  unfold total
  rw [List.range_succ, List.map_append, List.sum_append]
  simp
theorem rows_row {adj : List (List Int)} (h : Rows adj) (u : Nat) : ∀ x ∈ adj.getD u [], 0 ≤ x ∧ x < (adj.length : Int) := by
  intro v hv
  by_cases hu : u < adj.length
  · have e : adj.getD u [] = adj[u] := by simp [List.getD, hu]
    exact h adj[u] (List.getElem_mem hu) v (e ▸ hv)
  · rw [List.getD_eq_getElem?_getD, List.getElem?_eq_none (Nat.le_of_not_lt hu)] at hv
    cases hv
theorem sumTo_at {out : List (List Int)} (hr : Rows out) (now : List Nat) (v : Nat) (hv : v < out.length) : ∀ k, at_ (sumTo out now k) v % M64 = total out now v k % M64
  | 0 => by simp [sumTo, total, at_, List.getD, hv]
  | k + 1 => by
    rw [sumTo_succ, giveRow_at (sumTo_len out now k) (rows_row hr k) v hv, total_succ, Nat.add_mod, sumTo_at hr now v hv k, ← Nat.add_mod]
/-! ### The document's -/
def begins (L : List Ed) (u : Nat) : Nat := (L.filter fun e => e.1 == (u : Int)).length
def stepR (L : List Ed) (now s : List Nat) (e : Ed) : List Nat := give (at_ now e.1.toNat / begins L e.1.toNat) s e.2.toNat
def sumR (n : Nat) (now : List Nat) (L : List Ed) : List Nat := L.foldl (stepR L now) (List.replicate n 0)
def nextR (now : List Nat) (L : List Ed) : List Nat := (sumR now.length now L).map damped
theorem sumR_len (n : Nat) (now : List Nat) (L : List Ed) : (sumR n now L).length = n := by
  unfold sumR
  exact fold_inv0 (fun _ o => List.length o = n) L (List.replicate n 0) (by simp) (fun _ o e h _ => (give_len _ o _).trans h)
theorem sumR_at {n : Nat} {now : List Nat} {L : List Ed} (hL : Edges n L) (v : Nat) (hv : v < n) : at_ (sumR n now L) v % M64 = (L.map fun e => if e.2 = (v : Int) then at_ now e.1.toNat / begins L e.1.toNat else 0).sum % M64 := by
  have := fold_inv0 (f := stepR L now) (fun done o => o.length = n ∧ at_ o v % M64 = (done.map fun e => if e.2 = (v : Int) then at_ now e.1.toNat / begins L e.1.toNat else 0).sum % M64) L (List.replicate n 0) ⟨by simp, by simp [at_, List.getD, hv]⟩ (fun done o e h he => by
    obtain ⟨e1, e2, e3, e4⟩ := hL e he
    refine ⟨(give_len _ o _).trans h.1, ?_⟩
    unfold stepR
    rw [give_at (by rw [h.1]; omega), List.map_append, List.sum_append]
    by_cases c : v = e.2.toNat
    · rw [if_pos c, Nat.mod_mod, Nat.add_mod, h.2, ← Nat.add_mod]
      congr 2
      have c2 : e.2 = (v : Int) := by omega
      simp [c2]
    · rw [if_neg c, h.2]
      congr 1
      simp
      omega)
  exact this.2
theorem begins_row {n : Nat} {L : List Ed} (hL : Edges n L) (u : Nat) : begins L u = ((ofOut n L).getD u []).length := by
  rw [(ofOut_row hL).2]
  unfold begins rowO
  rw [List.length_map]
theorem sum_zero (f : Nat → Nat) : ∀ n, (∀ u, u < n → f u = 0) → ((List.range n).map f).sum = 0
  | 0, _ => rfl
  | n + 1, h => by
    rw [List.range_succ, List.map_append, List.sum_append, sum_zero f n (fun u hu => h u (by omega))]
    simp [h n (Nat.lt_succ_self n)]
theorem sum_add (f g : Nat → Nat) : ∀ n, ((List.range n).map fun u => f u + g u).sum = ((List.range n).map f).sum + ((List.range n).map g).sum
  | 0 => rfl
  | n + 1 => by
    rw [List.range_succ, List.map_append, List.map_append, List.map_append, List.sum_append, List.sum_append, List.sum_append, sum_add f g n]
    simp
    omega
theorem sum_one (f : Nat → Nat) (a : Nat) : ∀ n, a < n → (∀ u, u ≠ a → f u = 0) → ((List.range n).map f).sum = f a
  | 0, h, _ => by omega
  | n + 1, h, hz => by
    rw [List.range_succ, List.map_append, List.sum_append]
    by_cases e : a = n
    · subst e
      rw [sum_zero f a (fun u hu => hz u (by omega))]
      simp
    · rw [sum_one f a n (by omega) hz]
      simp [hz n (fun q => e q.symm)]
/-- The sum of the rows is the sum of the edges. -/
theorem sums_eq {n : Nat} (q : Nat → Nat) (v : Nat) : ∀ (L : List Ed), Edges n L → ((List.range n).map fun u => often (rowO L u) v * q u).sum = (L.map fun e => if e.2 = (v : Int) then q e.1.toNat else 0).sum
  | [], _ => by rw [sum_zero]; rfl; intro u _; simp [rowO, often]
  | e :: L, h => by
    obtain ⟨e1, e2, e3, e4⟩ := h e (List.mem_cons_self ..)
    have ih := sums_eq q v L (fun x hx => h x (List.mem_cons_of_mem _ hx))
    have hf : (fun u => often (rowO (e :: L) u) v * q u) = fun (u : Nat) => (if e.1 = (u : Int) ∧ e.2 = (v : Int) then q u else 0) + often (rowO L u) v * q u := by
      funext u
      unfold rowO often
      by_cases c : e.1 = (u : Int)
      · rw [List.filter_cons_of_pos (by simpa using c), List.map_cons]
        by_cases d : e.2 = (v : Int)
        · rw [if_pos ⟨c, d⟩, d, List.count_cons_self, Nat.add_mul]; omega
        · rw [if_neg (fun x => d x.2), List.count_cons_of_ne d]; omega
      · rw [List.filter_cons_of_neg (by simpa using c), if_neg (fun x => c x.1)]; omega
    rw [hf, sum_add, ih, List.map_cons, List.sum_cons]
    congr 1
    rw [sum_one _ e.1.toNat n (by omega)]
    · by_cases d : e.2 = (v : Int)
      · rw [if_pos ⟨by omega, d⟩, if_pos d]
      · rw [if_neg (fun x => d x.2), if_neg d]
    · intro u hu
      rw [if_neg]
      rintro ⟨x, _⟩
      omega
def Small (s : List Nat) : Prop := ∀ v, v < s.length → at_ s v < M64
theorem giveRow_small (now : List Nat) (l : List Int) (u : Nat) (s : List Nat) (h : Small s) : Small (giveRow now l u s) := by
  unfold giveRow
  refine fold_inv0 (fun _ o => Small o) l s h (fun _ o x ho _ => ?_)
  intro v hv
  unfold give at hv ⊢
  rw [at_set2]
  split
  · exact Nat.mod_lt _ (by decide)
  · exact ho v (by simpa using hv)
theorem sumTo_small (out : List (List Int)) (now : List Nat) : ∀ k, Small (sumTo out now k)
  | 0 => fun v hv => by simp [sumTo] at hv; simp [sumTo, at_, List.getD, hv, M64]
  | k + 1 => by rw [sumTo_succ]; exact giveRow_small _ _ _ _ (sumTo_small out now k)
theorem sumR_small (n : Nat) (now : List Nat) (L : List Ed) : Small (sumR n now L) := by
  unfold sumR
  refine fold_inv0 (fun _ o => Small o) L (List.replicate n 0) (fun v hv => by simp at hv; simp [at_, List.getD, hv, M64]) (fun _ o x ho _ => ?_)
  intro v hv
  unfold stepR give at hv ⊢
  rw [at_set2]
  split
  · exact Nat.mod_lt _ (by decide)
  · exact ho v (by simpa using hv)
theorem nextR_eq {n : Nat} {L : List Ed} {now : List Nat} (hL : Edges n L) (hn : now.length = n) : nextR now L = nextRT (ofOut n L) now := by
  have hol := (ofOut_row hL).1
  unfold nextR nextRT
  congr 1
  refine at_ext (by rw [sumR_len, sumTo_len, hn, hol]) (fun v hv => ?_)
  rw [hn] at hv ⊢
  have hs1 := sumR_small n now L v hv
  rw [sumR_len] at hv
  have h1 := sumR_at (now := now) hL v hv
  have h2 := sumTo_at (rows_out hL) now v (by rw [hol]; exact hv) (ofOut n L).length
  have hs2 := sumTo_small (ofOut n L) now (ofOut n L).length v (by rw [sumTo_len, hol]; exact hv)
  rw [Nat.mod_eq_of_lt hs1] at h1
  rw [Nat.mod_eq_of_lt hs2] at h2
  rw [h1, h2]
  congr 1
  unfold total
  rw [hol]
  have : (fun u => often ((ofOut n L).getD u []) v * share now ((ofOut n L).getD u []) u) = fun u => often (rowO L u) v * (at_ now u / begins L u) := by
    funext u
    unfold share
    rw [begins_row hL, (ofOut_row hL).2]
  rw [this, sums_eq (fun u => at_ now u / begins L u) v L hL]
theorem nextRT_len (out : List (List Int)) (now : List Nat) : (nextRT out now).length = out.length := by
  unfold nextRT
  rw [List.length_map, sumTo_len]
theorem ranks_len (out : List (List Int)) : ∀ r, (ranks out r).length = out.length
  | 0 => by simp [ranks, iter]
  | r + 1 => nextRT_len out _
theorem roundsR {n : Nat} {L : List Ed} (hL : Edges n L) : ∀ r, iter (fun x => nextR x L) (List.replicate n 4294967296) r = ranks (ofOut n L) r
  | 0 => by show _ = List.replicate (ofOut n L).length 4294967296; rw [(ofOut_row hL).1]; rfl
  | r + 1 => by
    show nextR (iter _ _ r) L = nextRT (ofOut n L) (ranks (ofOut n L) r)
    rw [roundsR hL r, nextR_eq hL]
    rw [ranks_len, (ofOut_row hL).1]
end Go.Proofs.Ytpmgkmodpneiiaa.E
