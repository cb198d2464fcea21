/- The document's rounds: breadth first. Plain. Conditions: those that each theorem names. -/
import Derived.Test.YtpmgkmodpneiiaaBfs
namespace Go.Proofs.Ytpmgkmodpneiiaa.E
set_option linter.unusedVariables false
set_option linter.unusedSimpArgs false
theorem fold_inv {α β : Type} (f : β → α → β) (P : List α → β → Prop) : ∀ (L : List α) (done : List α) (b : β), P done b → (∀ done b x, P done b → x ∈ L → P (done ++ [x]) (f b x)) → P (done ++ L) (L.foldl f b)
  | [], done, b, h, _ => by rw [List.append_nil]; exact h
  | x :: L, done, b, h, hs => by
    have := fold_inv f P L (done ++ [x]) (f b x) (hs done b x h (List.mem_cons_self ..)) (fun d b y h hy => hs d b y h (List.mem_cons_of_mem _ hy))
    rw [List.append_assoc] at this
    exact this
theorem fold_inv0 {α β : Type} {f : β → α → β} (P : List α → β → Prop) (L : List α) (b : β) (h : P [] b) (hs : ∀ done b x, P done b → x ∈ L → P (done ++ [x]) (f b x)) : P L (L.foldl f b) := fold_inv f P L [] b h hs
theorem at_ge {out : List Nat} {v : Nat} (h : out.length ≤ v) : at_ out v = farN := by
  unfold at_; rw [List.getD_eq_getElem?_getD, List.getElem?_eq_none h]; rfl
theorem at_set2 {out : List Nat} {i v x : Nat} : at_ (out.set i x) v = if v = i ∧ i < out.length then x else at_ out v := by
  by_cases h : i < out.length
  · rw [at_set h]
    by_cases e : v = i
    · rw [if_pos e, if_pos ⟨e, h⟩]
    · rw [if_neg e, if_neg (fun q => e q.1)]
  · rw [if_neg (fun q => h q.2), List.set_eq_of_length_le (Nat.le_of_not_lt h)]
theorem at_get {out : List Nat} {v : Nat} (h : v < out.length) : out[v]? = some (at_ out v) := by
  simp [at_, List.getD, h]
theorem at_ext {a b : List Nat} (hl : a.length = b.length) (h : ∀ v, v < a.length → at_ a v = at_ b v) : a = b := by
  apply List.ext_getElem? 
  intro v
  by_cases hv : v < a.length
  · rw [at_get hv, at_get (hl ▸ hv), h v hv]
  · rw [List.getElem?_eq_none (by omega), List.getElem?_eq_none (by omega)]
def stepB (now out : List Nat) (e : Ed) : List Nat := if at_ now e.1.toNat ≠ farN ∧ at_ now e.1.toNat + 1 < at_ out e.2.toNat then out.set e.2.toNat (at_ now e.1.toNat + 1) else out
def nextB (now : List Nat) (L : List Ed) : List Nat := L.foldl (stepB now) now
/-- Edges, of vertices. -/
def Edges (n : Nat) (L : List Ed) : Prop := ∀ e ∈ L, 0 ≤ e.1 ∧ e.1 < n ∧ 0 ≤ e.2 ∧ e.2 < n
def LeadsE (L : List Ed) (u v : Nat) : Prop := ((u : Int), (v : Int)) ∈ L
theorem stepB_len (now out : List Nat) (e : Ed) : (stepB now out e).length = out.length := by unfold stepB; split <;> simp
theorem nextB_len (now : List Nat) (L : List Ed) : (nextB now L).length = now.length := by
  unfold nextB
  exact fold_inv0 (fun _ o => o.length = now.length) L now rfl (fun _ o e h _ => (stepB_len now o e).trans h)
theorem nextB_at {n : Nat} {now : List Nat} {L : List Ed} (hL : Edges n L) (hn : now.length = n) (v : Nat) :
    at_ (nextB now L) v ≤ at_ now v ∧ (at_ (nextB now L) v = at_ now v ∨ ∃ u, LeadsE L u v ∧ at_ now u ≠ farN ∧ at_ (nextB now L) v = at_ now u + 1) ∧ (∀ u, LeadsE L u v → at_ now u ≠ farN → at_ (nextB now L) v ≤ at_ now u + 1) := by
  have key := fold_inv0 (f := stepB now) (fun done o => o.length = n ∧ at_ o v ≤ at_ now v ∧ (at_ o v = at_ now v ∨ ∃ u, LeadsE L u v ∧ at_ now u ≠ farN ∧ at_ o v = at_ now u + 1) ∧ (∀ u, LeadsE done u v → at_ now u ≠ farN → at_ o v ≤ at_ now u + 1)) L now
    ⟨hn, Nat.le_refl _, .inl rfl, fun u h => absurd h (by simp [LeadsE])⟩ (fun done o e h he => by
      obtain ⟨h0, h1, h2, h3⟩ := h
      obtain ⟨e1, e2, e3, e4⟩ := hL e he
      obtain ⟨x, y⟩ := e
      dsimp only at e1 e2 e3 e4
      obtain ⟨a, rfl⟩ : ∃ a : Nat, x = (a : Int) := ⟨x.toNat, by omega⟩
      obtain ⟨z, rfl⟩ : ∃ a : Nat, y = (a : Int) := ⟨y.toNat, by omega⟩
      have hz : z < o.length := by omega
      refine ⟨by rw [stepB_len]; exact h0, ?_⟩
      unfold stepB
      dsimp only
      simp only [Int.toNat_natCast]
      split
      · rename_i hc
        rw [at_set hz]
        by_cases ev : v = z
        · subst ev
          simp only [if_true]
          refine ⟨by omega, .inr ⟨a, he, hc.1, rfl⟩, fun u hu hf => ?_⟩
          rcases List.mem_append.1 hu with hu | hu
          · have := h3 u hu hf; omega
          · have := List.mem_singleton.1 hu
            injection this with q1 q2
            have : u = a := by omega
            subst this
            exact Nat.le_refl _
        · rw [if_neg ev]
          refine ⟨h1, h2, fun u hu hf => ?_⟩
          rcases List.mem_append.1 hu with hu | hu
          · exact h3 u hu hf
          · have := List.mem_singleton.1 hu
            injection this with q1 q2
            omega
      · rename_i hc
        refine ⟨h1, h2, fun u hu hf => ?_⟩
        rcases List.mem_append.1 hu with hu | hu
        · exact h3 u hu hf
        · have := List.mem_singleton.1 hu
          injection this with q1 q2
          have : u = a := by omega
          subst this
          have : v = z := by omega
          subst this
          have : ¬ (at_ now u + 1 < at_ o v) := fun q => hc ⟨hf, q⟩
          omega)
  exact ⟨key.2.1, key.2.2.1, key.2.2.2⟩
/-- Distances as far as m. -/
def lvl (m : Nat) (out : List Nat) : List Nat := out.map fun x => if x ≤ m then x else farN
theorem lvl_at (m : Nat) (out : List Nat) (v : Nat) : at_ (lvl m out) v = if at_ out v ≤ m then at_ out v else farN := by
  unfold lvl
  by_cases h : v < out.length
  · have := at_get h
    unfold at_ at *
    rw [List.getD_eq_getElem?_getD, List.getElem?_map, this]
    rfl
  · rw [at_ge (by simpa using h), at_ge (by omega)]
    split <;> rfl
theorem lvl_len (m : Nat) (out : List Nat) : (lvl m out).length = out.length := by simp [lvl]
theorem lvl_next {n s m : Nat} {L : List Ed} {out : List Nat} (hL : Edges n L) (h : Dst n (LeadsE L) s out) (hm : m < farN) (hn : n < farN) : nextB (lvl m out) L = lvl (m + 1) out := by
  apply at_ext
  · rw [nextB_len, lvl_len, lvl_len]
  intro v hv
  obtain ⟨h1, h2, h3⟩ := nextB_at hL (by rw [lvl_len, h.len] : (lvl m out).length = n) v
  generalize at_ (nextB (lvl m out) L) v = z at *
  simp only [lvl_at] at h1 h2 h3 ⊢
  by_cases c1 : at_ out v ≤ m
  · rw [if_pos c1] at h1 h2
    rw [if_pos (by omega)]
    rcases h2 with h2 | ⟨u, hu, hf, h2⟩
    · exact h2
    · by_cases c2 : at_ out u ≤ m
      · rw [if_pos c2] at hf h2
        have := (h.edge u v hu hf).2
        omega
      · rw [if_neg c2] at hf; exact absurd rfl hf
  · rw [if_neg c1] at h1 h2
    by_cases c3 : at_ out v ≤ m + 1
    · rw [if_pos c3]
      have e : at_ out v = m + 1 := by omega
      by_cases hfv : at_ out v = farN
      · rcases h2 with h2 | ⟨u, hu, hf, h2⟩
        · omega
        · by_cases c2 : at_ out u ≤ m
          · rw [if_pos c2] at hf h2
            exact absurd hfv (h.edge u v hu hf).1
          · rw [if_neg c2] at hf; exact absurd rfl hf
      · rcases h.pre v hfv with ⟨_, h0⟩ | ⟨u, hu, hf, hv1⟩
        · omega
        · have c2 : at_ out u ≤ m := by omega
          have h4 := h3 u hu (by rw [if_pos c2]; exact hf)
          rw [if_pos c2] at h4
          rcases h2 with h2 | ⟨u2, hu2, hf2, h2⟩
          · omega
          · by_cases c4 : at_ out u2 ≤ m
            · rw [if_pos c4] at hf2 h2
              have := (h.edge u2 v hu2 hf2).2
              omega
            · rw [if_neg c4] at hf2; exact absurd rfl hf2
    · rw [if_neg c3]
      rcases h2 with h2 | ⟨u, hu, hf, h2⟩
      · exact h2
      · by_cases c2 : at_ out u ≤ m
        · rw [if_pos c2] at hf h2
          have := (h.edge u v hu hf).2
          omega
        · rw [if_neg c2] at hf; exact absurd rfl hf
def iter (f : List Nat → List Nat) (x : List Nat) : Nat → List Nat
  | 0 => x
  | m + 1 => f (iter f x m)
def firstB (n s : Nat) : List Nat := (List.replicate n farN).set s 0
theorem first_lvl {n s : Nat} {E : Nat → Nat → Prop} {out : List Nat} (h : Dst n E s out) (hs : s < n) : firstB n s = lvl 0 out := by
  have hl : s < (List.replicate n farN).length := by simpa using hs
  apply at_ext
  · simp [firstB, lvl, h.len]
  intro v hv
  unfold firstB
  rw [at_set hl, lvl_at]
  have hr : at_ (List.replicate n farN) v = farN := by
    unfold at_
    by_cases h : v < n <;> simp [List.getD, h]
  by_cases e : v = s
  · subst e
    rw [if_pos rfl, if_pos (by rw [h.src]; exact Nat.le_refl _), h.src]
  · rw [if_neg e, hr, if_neg]
    intro hz
    have hz0 : at_ out v = 0 := by omega
    rcases h.pre v (by rw [hz0]; decide) with ⟨h1, _⟩ | ⟨u, _, _, h1⟩
    · exact e h1
    · omega
theorem iterB {n s : Nat} {L : List Ed} {out : List Nat} (hL : Edges n L) (h : Dst n (LeadsE L) s out) (hs : s < n) (hn : n < farN) : ∀ m, m < farN → iter (fun x => nextB x L) (firstB n s) m = lvl m out
  | 0, _ => first_lvl h hs
  | m + 1, hm => by
    show nextB (iter _ _ m) L = _
    rw [iterB hL h hs hn m (by omega), lvl_next hL h (by omega) hn]
theorem grt_max (L : List Nat) : (∀ x ∈ L, x ≠ farN → x ≤ grt L) ∧ (grt L = 0 ∨ (grt L ∈ L ∧ grt L ≠ farN)) := by
  have key := fold_inv0 (f := fun m x => if x = farN then m else Nat.max m x) (fun done m => (∀ x ∈ done, x ≠ farN → x ≤ m) ∧ (m = 0 ∨ (m ∈ L ∧ m ≠ farN))) L 0 ⟨fun x h => absurd h (by simp), .inl rfl⟩ (fun done m x h hx => by
    obtain ⟨h1, h2⟩ := h
    split
    · rename_i e
      refine ⟨fun y hy hf => ?_, h2⟩
      rcases List.mem_append.1 hy with hy | hy
      · exact h1 y hy hf
      · exact absurd ((List.mem_singleton.1 hy).trans e) hf
    · rename_i e
      refine ⟨fun y hy hf => ?_, ?_⟩
      · rcases List.mem_append.1 hy with hy | hy
        · exact Nat.le_trans (h1 y hy hf) (Nat.le_max_left _ _)
        · rw [List.mem_singleton.1 hy]; exact Nat.le_max_right _ _
      · rcases Nat.le_total m x with hle | hle
        · rw [show Nat.max m x = x from Nat.max_eq_right hle]; exact .inr ⟨hx, e⟩
        · rw [show Nat.max m x = m from Nat.max_eq_left hle]; exact h2)
  exact key
theorem at_mem {out : List Nat} {v : Nat} (h : v < out.length) : at_ out v ∈ out := List.mem_of_getElem? (at_get h)
theorem mem_at {out : List Nat} {x : Nat} (h : x ∈ out) : ∃ v, v < out.length ∧ at_ out v = x := by
  obtain ⟨v, hv, rfl⟩ := List.mem_iff_getElem.1 h
  exact ⟨v, hv, by simp [at_, List.getD, hv]⟩
/-- Each lesser distance is there. -/
theorem Dst.down {n s : Nat} {E : Nat → Nat → Prop} {out : List Nat} (h : Dst n E s out) : ∀ (d v : Nat), at_ out v ≠ farN → ∀ k, at_ out v = k + d → ∃ u, u < n ∧ at_ out u = k ∧ k ≠ farN
  | 0, v, hf, k, hk => ⟨v, by have := at_lt hf; rw [h.len] at this; exact this, hk, by rw [Nat.add_zero] at hk; rw [← hk]; exact hf⟩
  | d + 1, v, hf, k, hk => by
    rcases h.pre v hf with ⟨_, h0⟩ | ⟨u, _, hu, h1⟩
    · omega
    · exact Dst.down h d u hu k (by omega)
theorem lvl_all {out : List Nat} {m : Nat} (h : grt out ≤ m) (hm : m < farN) : lvl m out = out := by
  apply at_ext (by rw [lvl_len])
  intro v hv
  rw [lvl_len] at hv
  rw [lvl_at]
  by_cases e : at_ out v = farN
  · rw [e, if_neg (by omega)]
  · rw [if_pos (Nat.le_trans ((grt_max out).1 _ (at_mem hv) e) h)]
/-- How many rounds the document takes, and what comes of them. -/
theorem roundsB {n s : Nat} {L : List Ed} {out : List Nat} (hL : Edges n L) (h : Dst n (LeadsE L) s out) (hs : s < n) (hn : n < 1000) :
    iter (fun x => nextB x L) (firstB n s) (grt out + 1) = out ∧ iter (fun x => nextB x L) (firstB n s) (grt out) = out ∧ ∀ k, k < grt out → iter (fun x => nextB x L) (firstB n s) (k + 1) ≠ iter (fun x => nextB x L) (firstB n s) k := by
  have hg : grt out < n := by
    rcases (grt_max out).2 with h0 | ⟨h1, h2⟩
    · omega
    · obtain ⟨v, hv, e⟩ := mem_at h1
      have := h.lt v (by rw [e]; exact h2)
      omega
  have hf : (1000 : Nat) < farN := by decide
  refine ⟨?_, ?_, fun k hk => ?_⟩
  · rw [iterB hL h hs (by omega) _ (by omega), lvl_all (by omega) (by omega)]
  · rw [iterB hL h hs (by omega) _ (by omega), lvl_all (Nat.le_refl _) (by omega)]
  · rw [iterB hL h hs (by omega) _ (by omega), iterB hL h hs (by omega) _ (by omega)]
    intro e
    rcases (grt_max out).2 with h0 | ⟨h1, h2⟩
    · omega
    · obtain ⟨v, hv, ev⟩ := mem_at h1
      obtain ⟨u, hu, eu, _⟩ := h.down (grt out - (k + 1)) v (by rw [ev]; exact h2) (k + 1) (by rw [ev]; omega)
      have : at_ (lvl (k + 1) out) u = at_ (lvl k out) u := by rw [e]
      rw [lvl_at, lvl_at, eu, if_pos (Nat.le_refl _), if_neg (by omega)] at this
      omega
end Go.Proofs.Ytpmgkmodpneiiaa.E
