/- Cores, as the program finds them, and as the document's rounds do. Plain. Conditions: those that each theorem names. -/
import Derived.Test.YtpmgkmodpneiiaaAdj
namespace Go.Proofs.Ytpmgkmodpneiiaa.E
set_option linter.unusedVariables false
set_option linter.unusedSimpArgs false
def M64 : Nat := 18446744073709551616
def degN (out : List Nat) (r : List Int) : Nat := r.foldl (fun d u => d + at_ out u.toNat) 0
def goneTo (all : List (List Int)) (a : Nat) (out : List Nat) (k : Nat) : List Nat := (List.range k).filter (fun v => decide (at_ out v = 1 ∧ degN out (all.getD v []) < a))
def goneOf (all : List (List Int)) (a : Nat) (out : List Nat) : List Nat := goneTo all a out all.length
def zeroAt (g : List Nat) (out : List Nat) : List Nat := g.foldl (fun o v => o.set v 0) out
def corGo (all : List (List Int)) (a : Nat) : Nat → List Nat × Nat → List Nat × Nat
  | 0, S => S
  | f + 1, S => if goneOf all a S.1 = [] then S else corGo all a f (zeroAt (goneOf all a S.1) S.1, S.2 + 1)
def cores (all : List (List Int)) (a : Nat) : List Nat × Nat := corGo all a (all.length + 1) (List.replicate all.length 1, 0)
theorem goneTo_succ (all : List (List Int)) (a : Nat) (out : List Nat) (k : Nat) : goneTo all a out (k + 1) = goneTo all a out k ++ (if at_ out k = 1 ∧ degN out (all.getD k []) < a then [k] else []) := by
  unfold goneTo
  rw [List.range_succ, List.filter_append]
  congr 1
  by_cases c : at_ out k = 1 ∧ degN out (all.getD k []) < a
  · rw [if_pos c, List.filter_cons_of_pos (by simpa using c)]; rfl
  · rw [if_neg c, List.filter_cons_of_neg (by simpa using c)]; rfl
theorem zeroAt_len (g out : List Nat) : (zeroAt g out).length = out.length := by
  unfold zeroAt
  exact fold_inv0 (fun _ o => o.length = out.length) g out rfl (fun _ o v h _ => (List.length_set ..).trans h)
theorem zeroAt_at (g out : List Nat) (v : Nat) (hg : ∀ x ∈ g, x < out.length) : at_ (zeroAt g out) v = if v ∈ g then 0 else at_ out v := by
  have := fold_inv0 (f := fun (o : List Nat) v => o.set v 0) (fun done o => o.length = out.length ∧ at_ o v = if v ∈ done then 0 else at_ out v) g out ⟨rfl, by simp⟩ (fun done o x h hx => by
    refine ⟨(List.length_set ..).trans h.1, ?_⟩
    rw [at_set (by rw [h.1]; exact hg x hx), h.2]
    by_cases e : v = x
    · rw [if_pos e, if_pos (List.mem_append_right _ (List.mem_singleton.2 e))]
    · rw [if_neg e]
      by_cases c : v ∈ done
      · rw [if_pos c, if_pos (List.mem_append_left _ c)]
      · rw [if_neg c, if_neg (fun q => by rcases List.mem_append.1 q with q | q; exact c q; exact e (List.mem_singleton.1 q))])
  exact this.2
theorem mem_gone {all : List (List Int)} {a : Nat} {out : List Nat} {v : Nat} : v ∈ goneOf all a out ↔ v < all.length ∧ at_ out v = 1 ∧ degN out (all.getD v []) < a := by
  unfold goneOf goneTo
  simp
/-! ### The document's -/
def stepS (now s : List Nat) (e : Ed) : List Nat :=
  (s.set e.1.toNat ((at_ s e.1.toNat + at_ now e.2.toNat) % M64)).set e.2.toNat ((at_ (s.set e.1.toNat ((at_ s e.1.toNat + at_ now e.2.toNat) % M64)) e.2.toNat + at_ now e.1.toNat) % M64)
def sumS (n : Nat) (now : List Nat) (L : List Ed) : List Nat := L.foldl (stepS now) (List.replicate n 0)
def capTo (a : Nat) (s now : List Nat) (k : Nat) : List Nat := (List.range k).foldl (fun o v => if at_ s v < a then o.set v 0 else o) now
def nextC (a : Nat) (now : List Nat) (L : List Ed) : List Nat := capTo a (sumS now.length now L) now now.length
theorem degN_append (out : List Nat) (r q : List Int) : degN out (r ++ q) = degN out r + degN out q := by
  have : ∀ (q : List Int) (d : Nat), q.foldl (fun d u => d + at_ out u.toNat) d = d + degN out q := by
    intro q
    induction q with
    | nil => intro d; rfl
    | cons x q ih => intro d; unfold degN; rw [List.foldl_cons, List.foldl_cons, ih, ih]; omega
  unfold degN
  rw [List.foldl_append, this]
  rfl
theorem stepS_len (now s : List Nat) (e : Ed) : (stepS now s e).length = s.length := by unfold stepS; simp
theorem sumS_len (n : Nat) (now : List Nat) (L : List Ed) : (sumS n now L).length = n := by
  unfold sumS
  exact fold_inv0 (fun _ o => o.length = n) L (List.replicate n 0) (by simp) (fun _ o e h _ => (stepS_len now o e).trans h)
theorem stepS_at {now s : List Nat} {a z : Nat} (ha : a < s.length) (hz : z < s.length) (v : Nat) :
    at_ (stepS now s ((a : Int), (z : Int))) v = if v = z then (if v = a then ((at_ s v + at_ now z) % M64 + at_ now a) % M64 else (at_ s v + at_ now a) % M64) else if v = a then (at_ s v + at_ now z) % M64 else at_ s v := by
  unfold stepS
  simp only [Int.toNat_natCast]
  rw [at_set (by simpa using hz), at_set ha, at_set ha]
  by_cases e : v = z
  · subst e
    rw [if_pos rfl, if_pos rfl]
    by_cases e2 : v = a
    · subst e2; rw [if_pos rfl, if_pos rfl]
    · rw [if_neg e2, if_neg e2]
  · rw [if_neg e, if_neg e]
    by_cases e2 : v = a
    · subst e2; simp
    · rw [if_neg e2, if_neg e2]
theorem sumS_at {n : Nat} {now : List Nat} {L : List Ed} (hL : Edges n L) (v : Nat) (hv : v < n) : at_ (sumS n now L) v = degN now (rowA L v) % M64 := by
  have := fold_inv0 (f := stepS now) (fun done o => o.length = n ∧ at_ o v = degN now (rowA done v) % M64) L (List.replicate n 0) ⟨by simp, by simp [at_, List.getD, hv, rowA, degN]⟩ (fun done o e h he => by
    obtain ⟨e1, e2, e3, e4⟩ := hL e he
    obtain ⟨x, y⟩ := e
    dsimp only at e1 e2 e3 e4
    obtain ⟨a, rfl⟩ : ∃ a : Nat, x = (a : Int) := ⟨x.toNat, by omega⟩
    obtain ⟨z, rfl⟩ : ∃ a : Nat, y = (a : Int) := ⟨y.toNat, by omega⟩
    refine ⟨(stepS_len now o _).trans h.1, ?_⟩
    rw [stepS_at (by omega) (by omega), h.2]
    have hr : rowA (done ++ [((a : Int), (z : Int))]) v = rowA done v ++ ((if a = v then [(z : Int)] else []) ++ (if z = v then [(a : Int)] else [])) := by
      unfold rowA
      rw [List.flatMap_append]
      congr 1
      have c : ∀ i : Nat, ((i : Int) = (v : Int)) = (i = v) := fun i => by apply propext; omega
      simp only [oneA, List.flatMap_cons, List.flatMap_nil, List.append_nil, c]
    rw [hr, degN_append]
    generalize degN now (rowA done v) = d
    by_cases c1 : v = z
    · by_cases c2 : v = a
      · rw [if_pos c1, if_pos c2, if_pos c2.symm, if_pos c1.symm]
        simp [degN, M64]
        omega
      · rw [if_pos c1, if_neg c2, if_neg (fun q => c2 q.symm), if_pos c1.symm]
        simp [degN, M64]
    · by_cases c2 : v = a
      · rw [if_neg c1, if_pos c2, if_pos c2.symm, if_neg (fun q => c1 q.symm)]
        simp [degN, M64]
      · rw [if_neg c1, if_neg c2, if_neg (fun q => c2 q.symm), if_neg (fun q => c1 q.symm)]
        simp [degN, M64])
  exact this.2
theorem capTo_succ (a : Nat) (s now : List Nat) (k : Nat) : capTo a s now (k + 1) = if at_ s k < a then (capTo a s now k).set k 0 else capTo a s now k := by
  unfold capTo
  rw [List.range_succ, List.foldl_append]
  rfl
theorem capTo_len (a : Nat) (s now : List Nat) : ∀ k, (capTo a s now k).length = now.length
  | 0 => rfl
  | k + 1 => by
    rw [capTo_succ]
    split
    · rw [List.length_set]; exact capTo_len a s now k
    · exact capTo_len a s now k
theorem capTo_at (a : Nat) (s now : List Nat) (v : Nat) : ∀ k, k ≤ now.length → at_ (capTo a s now k) v = if v < k ∧ at_ s v < a then 0 else at_ now v
  | 0, _ => by rw [if_neg (by omega)]; rfl
  | k + 1, hk => by
    have ih := capTo_at a s now v k (by omega)
    rw [capTo_succ]
    split
    · rename_i h
      rw [at_set (by rw [capTo_len]; omega)]
      by_cases e : v = k
      · subst e; rw [if_pos rfl, if_pos ⟨by omega, h⟩]
      · rw [if_neg e, ih]
        by_cases c : v < k ∧ at_ s v < a
        · rw [if_pos c, if_pos ⟨by omega, c.2⟩]
        · rw [if_neg c, if_neg (fun q => c ⟨by omega, q.2⟩)]
    · rename_i h
      rw [ih]
      by_cases c : v < k ∧ at_ s v < a
      · rw [if_pos c, if_pos ⟨by omega, c.2⟩]
      · rw [if_neg c, if_neg]
        rintro ⟨q1, q2⟩
        by_cases e : v = k
        · subst e; exact h q2
        · exact c ⟨by omega, q2⟩
/-- Those that stay, by 1; those that don't, by 0. -/
def Bits (out : List Nat) : Prop := ∀ v, v < out.length → at_ out v ≤ 1
theorem degN_le {out : List Nat} {n : Nat} (hb : Bits out) (hl : out.length = n) : ∀ (r : List Int), (∀ x ∈ r, x.toNat < n) → degN out r ≤ r.length
  | [], _ => Nat.le_refl _
  | x :: r, h => by
    have e : degN out (x :: r) = degN out [x] + degN out r := by rw [← degN_append]; rfl
    have h1 : degN out [x] = at_ out x.toNat := by simp [degN]
    have h2 := degN_le hb hl r (fun y hy => h y (List.mem_cons_of_mem _ hy))
    have h3 := hb x.toNat (by rw [hl]; exact h x (List.mem_cons_self ..))
    rw [List.length_cons]
    omega
theorem rowA_len (L : List Ed) (v : Nat) : (rowA L v).length ≤ 2 * L.length := by
  unfold rowA
  induction L with
  | nil => exact Nat.le_refl _
  | cons e L ih =>
    rw [List.flatMap_cons, List.length_append, List.length_cons]
    have : (oneA v e).length ≤ 2 := by unfold oneA; rw [List.length_append]; split <;> split <;> simp
    omega
theorem core_next {n a : Nat} {L : List Ed} {now : List Nat} (hL : Edges n L) (hlen : L.length ≤ 100000) (hn : now.length = n) (hb : Bits now) :
    nextC a now L = zeroAt (goneOf (ofAll n L) a now) now ∧ Bits (nextC a now L) ∧ (goneOf (ofAll n L) a now = [] ↔ nextC a now L = now) := by
  have hal : (ofAll n L).length = n := (ofAll_row hL).1
  have hs : ∀ v, v < n → at_ (sumS n now L) v = degN now ((ofAll n L).getD v []) := fun v hv => by
    rw [sumS_at hL v hv, (ofAll_row hL).2]
    refine Nat.mod_eq_of_lt ?_
    have h1 := degN_le hb hn (rowA L v) (fun x hx => by
      have := rows_get (rows_all hL) v x (by rw [(ofAll_row hL).2]; exact hx)
      rw [hal] at this
      exact this.1)
    have h2 := rowA_len L v
    unfold M64
    omega
  have hc : ∀ v, v < n → at_ (nextC a now L) v = if at_ now v = 1 ∧ degN now ((ofAll n L).getD v []) < a then 0 else at_ now v := fun v hv => by
    unfold nextC
    rw [hn, capTo_at _ _ _ _ _ (by omega), hs v hv]
    have := hb v (by omega)
    by_cases c : degN now ((ofAll n L).getD v []) < a
    · rw [if_pos ⟨hv, c⟩]
      by_cases e : at_ now v = 1
      · rw [if_pos ⟨e, c⟩]
      · rw [if_neg (fun q => e q.1)]; omega
    · rw [if_neg (fun q => c q.2), if_neg (fun q => c q.2)]
  have hcl : (nextC a now L).length = n := by unfold nextC; rw [capTo_len]; exact hn
  have hz : nextC a now L = zeroAt (goneOf (ofAll n L) a now) now := by
    refine at_ext (by rw [hcl, zeroAt_len, hn]) (fun v hv => ?_)
    rw [hcl] at hv
    rw [hc v hv, zeroAt_at _ _ _ (fun x hx => by have := (mem_gone.1 hx).1; omega)]
    by_cases c : at_ now v = 1 ∧ degN now ((ofAll n L).getD v []) < a
    · rw [if_pos c, if_pos (mem_gone.2 ⟨by omega, c⟩)]
    · rw [if_neg c, if_neg (fun q => c (mem_gone.1 q).2)]
  refine ⟨hz, fun v hv => ?_, ?_⟩
  · rw [hcl] at hv
    rw [hc v hv]
    split
    · omega
    · exact hb v (by omega)
  · constructor
    · intro h
      rw [hz, h]
      rfl
    · intro h
      apply List.eq_nil_iff_forall_not_mem.2
      intro v hv
      obtain ⟨h1, h2⟩ := mem_gone.1 hv
      have := hc v (by omega)
      rw [if_pos h2, h, h2.1] at this
      omega
theorem count_drop {out : List Nat} {g : List Nat} (hg : g ≠ []) (h1 : ∀ v ∈ g, at_ out v = 1) (hl : ∀ v ∈ g, v < out.length) : (zeroAt g out).count 1 < out.count 1 := by
  have gen : ∀ (g : List Nat) (o : List Nat), (zeroAt g o).count 1 ≤ o.count 1 := by
    intro g
    induction g with
    | nil => intro o; exact Nat.le_refl _
    | cons v g ih =>
      intro o
      refine Nat.le_trans (ih (o.set v 0)) ?_
      by_cases hv : v < o.length
      · rw [List.count_set hv]; simp
      · rw [List.set_eq_of_length_le (by omega)]; exact Nat.le_refl _
  cases g with
  | nil => exact absurd rfl hg
  | cons v g =>
    refine Nat.lt_of_le_of_lt (gen g (out.set v 0)) ?_
    have hv := hl v (List.mem_cons_self ..)
    have h0 : out[v] = 1 := by have := h1 v (List.mem_cons_self ..); simpa [at_, List.getD, hv] using this
    have hp : 0 < out.count 1 := List.count_pos_iff.2 (h0 ▸ List.getElem_mem hv)
    rw [List.count_set hv]
    simp [h0]
    omega
def iterC (a n : Nat) (L : List Ed) (m : Nat) : List Nat := iter (fun x => nextC a x L) (List.replicate n 1) m
theorem iterC_bits {n a : Nat} {L : List Ed} (hL : Edges n L) (hlen : L.length ≤ 100000) : ∀ m, (iterC a n L m).length = n ∧ Bits (iterC a n L m)
  | 0 => ⟨by simp [iterC, iter], fun v hv => by simp [iterC, iter] at hv; simp [iterC, iter, at_, List.getD, hv]⟩
  | m + 1 => by
    obtain ⟨h1, h2⟩ := iterC_bits (a := a) hL hlen m
    refine ⟨?_, (core_next hL hlen h1 h2).2.1⟩
    show (nextC a (iterC a n L m) L).length = n
    unfold nextC
    rw [capTo_len]
    exact h1
theorem corGo_iter {n a : Nat} {L : List Ed} (hL : Edges n L) (hlen : L.length ≤ 100000) : ∀ (f m : Nat), (iterC a n L m).count 1 < f →
    ∃ k, corGo (ofAll n L) a f (iterC a n L m, m) = (iterC a n L k, k) ∧ m ≤ k ∧ k ≤ m + (iterC a n L m).count 1 ∧ goneOf (ofAll n L) a (iterC a n L k) = [] ∧ ∀ j, m ≤ j → j < k → iterC a n L (j + 1) ≠ iterC a n L j
  | 0, m, h => by omega
  | f + 1, m, h => by
    obtain ⟨h1, h2⟩ := iterC_bits (a := a) hL hlen m
    obtain ⟨c1, _, c3⟩ := core_next (a := a) hL hlen h1 h2
    unfold corGo
    dsimp only
    by_cases hg : goneOf (ofAll n L) a (iterC a n L m) = []
    · rw [if_pos hg]
      exact ⟨m, rfl, Nat.le_refl _, Nat.le_add_right _ _, hg, fun j h1 h2 => by omega⟩
    · rw [if_neg hg, ← c1]
      have hd := count_drop hg (fun v hv => (mem_gone.1 hv).2.1) (fun v hv => by have := (mem_gone.1 hv).1; rw [(ofAll_row hL).1] at this; omega)
      rw [← c1] at hd
      obtain ⟨k, k1, k2, k3, k4, k5⟩ := corGo_iter hL hlen f (m + 1) (by show (nextC a (iterC a n L m) L).count 1 < f; omega)
      have hd2 : (iterC a n L (m + 1)).count 1 < (iterC a n L m).count 1 := hd
      refine ⟨k, k1, by omega, by omega, k4, fun j hj1 hj2 => ?_⟩
      by_cases e : j = m
      · subst e
        exact fun q => hg (c3.2 q)
      · exact k5 j (by omega) hj2
theorem roundsC {n a : Nat} {L : List Ed} (hL : Edges n L) (hlen : L.length ≤ 100000) :
    ∃ k, cores (ofAll n L) a = (iterC a n L k, k) ∧ k ≤ n ∧ iterC a n L (k + 1) = iterC a n L k ∧ ∀ j, j < k → iterC a n L (j + 1) ≠ iterC a n L j := by
  have h0 : (iterC a n L 0).count 1 = n := by simp [iterC, iter]
  obtain ⟨k, k1, k2, k3, k4, k5⟩ := corGo_iter (a := a) hL hlen (n + 1) 0 (by omega)
  have hal : (ofAll n L).length = n := (ofAll_row hL).1
  obtain ⟨h1, h2⟩ := iterC_bits (a := a) hL hlen k
  refine ⟨k, ?_, by omega, ((core_next hL hlen h1 h2).2.2).1 k4, fun j hj => k5 j (by omega) hj⟩
  unfold cores
  rw [hal]
  exact k1
end Go.Proofs.Ytpmgkmodpneiiaa.E
