/- Cores: what stays has as many neighbours that stay; by a less degree more stay. Plain. Conditions: those that each theorem names. -/
import Derived.Test.YtpmgkmodpneiiaaMad
namespace Go.Proofs.Ytpmgkmodpneiiaa.E
set_option linter.unusedVariables false
set_option linter.unusedSimpArgs false
/-- What stays in the end. -/
structure Core (n : Nat) (L : List Ed) (a : Nat) (out : List Nat) : Prop where
  len : out.length = n
  bits : Bits out
  deg : ∀ v, v < n → at_ out v = 1 → a ≤ degN out (rowA L v)
theorem core_job {n : Nat} {L : List Ed} (h : Good n L) (a : Nat) : (job n L 4 (a : Int)).1 = (cores (ofAll n L) a).1 := by
  unfold job
  rw [if_neg (by decide), if_neg (by decide), if_neg (by decide), Int.toNat_natCast]
theorem core_iter {n : Nat} {L : List Ed} (h : Good n L) (a : Nat) : ∃ k, (cores (ofAll n L) a).1 = iterC a n L k ∧ Core n L a (iterC a n L k) := by
  have hl : L.length ≤ 100000 := by have := h.len; omega
  obtain ⟨k, k1, k2, k3, _⟩ := roundsC (n := n) (a := a) h.edges hl
  obtain ⟨h1, h2⟩ := iterC_bits (a := a) h.edges hl k
  refine ⟨k, by rw [k1], h1, h2, fun v hv hone => ?_⟩
  have hg := ((core_next (a := a) h.edges hl h1 h2).2.2).2 k3
  apply Classical.byContradiction
  intro hlt
  have hmem : v ∈ goneOf (ofAll n L) a (iterC a n L k) := mem_gone.2 ⟨by rw [(ofAll_row h.edges).1]; exact hv, hone, by rw [(ofAll_row h.edges).2]; omega⟩
  rw [hg] at hmem
  cases hmem
theorem degN_mono {p q : List Nat} : ∀ (r : List Int), (∀ x ∈ r, at_ p x.toNat ≤ at_ q x.toNat) → degN p r ≤ degN q r
  | [], _ => Nat.le_refl _
  | x :: r, h => by
    have e : ∀ o, degN o (x :: r) = degN o [x] + degN o r := fun o => by rw [← degN_append]; rfl
    have e1 : ∀ o, degN o [x] = at_ o x.toNat := fun o => by simp [degN]
    rw [e, e, e1, e1]
    have := degN_mono r (fun y hy => h y (List.mem_cons_of_mem _ hy))
    have := h x (List.mem_cons_self ..)
    omega
/-- What stays by a degree stays in all rounds by a less one. -/
theorem core_below {n : Nat} {L : List Ed} (h : Good n L) {a b : Nat} (hab : b ≤ a) {out : List Nat} (hc : Core n L a out) : ∀ m v, v < n → at_ out v ≤ at_ (iterC b n L m) v
  | 0, v, hv => by
    have := hc.bits v (by rw [hc.len]; exact hv)
    simp [iterC, iter, at_, List.getD, hv] at this ⊢
    omega
  | m + 1, v, hv => by
    have hl : L.length ≤ 100000 := by have := h.len; omega
    have ih := core_below h hab hc m
    obtain ⟨h1, h2⟩ := iterC_bits (a := b) h.edges hl m
    have hn := (core_next (a := b) h.edges hl h1 h2).1
    show at_ out v ≤ at_ (nextC b (iterC b n L m) L) v
    rw [hn, zeroAt_at _ _ _ (fun x hx => by have := (mem_gone.1 hx).1; rw [(ofAll_row h.edges).1] at this; omega)]
    split
    · rename_i hm
      obtain ⟨_, hone, hlt⟩ := mem_gone.1 hm
      rw [(ofAll_row h.edges).2] at hlt
      have hb := hc.bits v (by rw [hc.len]; exact hv)
      by_cases e : at_ out v = 1
      · have h3 := hc.deg v hv e
        have h4 := degN_mono (p := out) (q := iterC b n L m) (rowA L v) (fun x hx => ih x.toNat (by
          have := rows_get (rows_all h.edges) v x (by rw [(ofAll_row h.edges).2]; exact hx)
          rw [(ofAll_row h.edges).1] at this
          exact this.1))
        omega
      · omega
    · exact ih v hv
theorem core_all {n : Nat} {L : List Ed} (h : Good n L) : ∀ m, iterC 0 n L m = List.replicate n 1
  | 0 => rfl
  | m + 1 => by
    show nextC 0 (iterC 0 n L m) L = _
    rw [core_all h m]
    have hl : L.length ≤ 100000 := by have := h.len; omega
    have hb : Bits (List.replicate n 1) := fun v hv => by simp at hv; simp [at_, List.getD, hv]
    have hg : goneOf (ofAll n L) 0 (List.replicate n 1) = [] := by
      apply List.eq_nil_iff_forall_not_mem.2
      intro v hv
      have := (mem_gone.1 hv).2.2
      omega
    exact ((core_next (a := 0) h.edges hl (by simp) hb).2.2).1 hg
/-- How many edges of those that stay meet at each. -/
def haveStep (out : List Nat) (hs : List Nat) (e : Ed) : List Nat :=
  if at_ out e.1.toNat = 1 ∧ at_ out e.2.toNat = 1 then (hs.set e.1.toNat (at_ hs e.1.toNat + 1)).set e.2.toNat (at_ (hs.set e.1.toNat (at_ hs e.1.toNat + 1)) e.2.toNat + 1) else hs
def haveTo (out : List Nat) (n : Nat) (L : List Ed) : List Nat := L.foldl (haveStep out) (List.replicate n 0)
theorem haveTo_take {out : List Nat} {n k : Nat} {L : List Ed} {e : Ed} (h : L[k]? = some e) : haveTo out n (L.take (k + 1)) = haveStep out (haveTo out n (L.take k)) e := by
  unfold haveTo
  rw [List.take_add_one, h, List.foldl_append]
  rfl
theorem haveStep_len (out hs : List Nat) (e : Ed) : (haveStep out hs e).length = hs.length := by unfold haveStep; split <;> simp
theorem haveTo_len (out : List Nat) (n : Nat) (L : List Ed) : (haveTo out n L).length = n := by
  unfold haveTo
  exact fold_inv0 (fun _ o => List.length o = n) L (List.replicate n 0) (by simp) (fun _ o e h _ => (haveStep_len out o e).trans h)
theorem haveTo_le {out : List Nat} {n : Nat} {L : List Ed} (hL : Edges n L) (v : Nat) (hv : v < n) : at_ (haveTo out n L) v ≤ 2 * L.length := by
  unfold haveTo
  have := fold_inv0 (f := haveStep out) (fun done o => o.length = n ∧ at_ o v ≤ 2 * done.length) L (List.replicate n 0) ⟨by simp, by simp [at_, List.getD, hv]⟩ (fun done o e h he => by
    obtain ⟨e1, e2, e3, e4⟩ := hL e he
    refine ⟨(haveStep_len out o e).trans h.1, ?_⟩
    rw [List.length_append, List.length_singleton]
    unfold haveStep
    split
    · rw [at_set (by rw [List.length_set, h.1]; omega), at_set (by rw [h.1]; omega), at_set (by rw [h.1]; omega)]
      have := h.2
      by_cases c1 : v = e.2.toNat
      · rw [if_pos c1, ← c1]
        split
        · rename_i c2; rw [← c2]; omega
        · omega
      · rw [if_neg c1]
        split
        · rename_i c2; rw [← c2]; omega
        · omega
    · have := h.2; omega)
  exact this.2
/-- Whoever stays has as many as its neighbours that stay. -/
theorem have_deg {out : List Nat} {n : Nat} {L : List Ed} (hL : Edges n L) (hb : Bits out) (hlen : out.length = n) {v : Nat} (hv : v < n) (hone : at_ out v = 1) : at_ (haveTo out n L) v = degN out (rowA L v) := by
  unfold haveTo
  have := fold_inv0 (f := haveStep out) (fun done o => o.length = n ∧ at_ o v = degN out (rowA done v)) L (List.replicate n 0) ⟨by simp, by simp [at_, List.getD, hv, rowA, degN]⟩ (fun done o e h he => by
    obtain ⟨e1, e2, e3, e4⟩ := hL e he
    obtain ⟨x, y⟩ := e
    dsimp only at e1 e2 e3 e4
    obtain ⟨a, rfl⟩ : ∃ a : Nat, x = (a : Int) := ⟨x.toNat, by omega⟩
    obtain ⟨z, rfl⟩ : ∃ a : Nat, y = (a : Int) := ⟨y.toNat, by omega⟩
    refine ⟨(haveStep_len out o _).trans h.1, ?_⟩
    have hr : rowA (done ++ [((a : Int), (z : Int))]) v = rowA done v ++ ((if a = v then [(z : Int)] else []) ++ (if z = v then [(a : Int)] else [])) := by
      unfold rowA
      rw [List.flatMap_append]
      congr 1
      have c : ∀ i : Nat, ((i : Int) = (v : Int)) = (i = v) := fun i => by apply propext; omega
      simp only [oneA, List.flatMap_cons, List.flatMap_nil, List.append_nil, c]
    rw [hr, degN_append, ← h.2]
    have ba := hb a (by omega)
    have bz := hb z (by omega)
    unfold haveStep
    simp only [Int.toNat_natCast]
    have s1 : ∀ i : Nat, degN out [(i : Int)] = at_ out i := fun i => by simp [degN]
    have s0 : degN out [] = 0 := rfl
    split
    · rename_i hc
      rw [at_set (by rw [List.length_set, h.1]; omega), at_set (by rw [h.1]; omega), at_set (by rw [h.1]; omega), degN_append]
      by_cases c1 : v = z
      · by_cases c2 : v = a
        · rw [if_pos c1, if_pos (c1.symm.trans c2), if_pos c2.symm, if_pos c1.symm, s1, s1, hc.1, hc.2, c2]
        · rw [if_pos c1, if_neg (fun q => c2 (c1.trans q)), if_neg (fun q => c2 q.symm), if_pos c1.symm, s1, s0, hc.1, c1]
      · by_cases c2 : v = a
        · rw [if_neg c1, if_pos c2, if_pos c2.symm, if_neg (fun q => c1 q.symm), s1, s0, hc.2, c2]
        · rw [if_neg c1, if_neg c2, if_neg (fun q => c2 q.symm), if_neg (fun q => c1 q.symm)]; rfl
    · rename_i hc
      rw [degN_append]
      by_cases c1 : v = z
      · by_cases c2 : v = a
        · exact absurd ⟨c2 ▸ hone, c1 ▸ hone⟩ hc
        · have : at_ out a ≠ 1 := fun q => hc ⟨q, c1 ▸ hone⟩
          rw [if_neg (fun q => c2 q.symm), if_pos c1.symm, s1, s0]; omega
      · by_cases c2 : v = a
        · have : at_ out z ≠ 1 := fun q => hc ⟨c2 ▸ hone, q⟩
          rw [if_pos c2.symm, if_neg (fun q => c1 q.symm), s1, s0]; omega
        · rw [if_neg (fun q => c2 q.symm), if_neg (fun q => c1 q.symm)]; rfl)
  exact this.2
theorem chk_four {n a : Nat} (h1 : 1 ≤ n) (h2 : n ≤ 60) (ha : a ≤ 12) : chk 4 (a : Int) 0 (n : Int) = 0 := by
  unfold chk okN argOk
  rw [if_pos]
  simp
  omega
end Go.Proofs.Ytpmgkmodpneiiaa.E
