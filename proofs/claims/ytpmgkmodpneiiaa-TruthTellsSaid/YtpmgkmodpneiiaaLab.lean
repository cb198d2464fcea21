/- Labels, as the program finds them, and as the document's rounds do. Plain. Conditions: those that each theorem names. -/
import Derived.Test.YtpmgkmodpneiiaaDob
namespace Go.Proofs.Ytpmgkmodpneiiaa.E
set_option linter.unusedVariables false
set_option linter.unusedSimpArgs false
def Rt (E : Nat → Nat → Prop) (s v : Nat) : Prop := ∀ C : Nat → Prop, C s → (∀ a b, E a b → C a → C b) → C v
theorem Rt.refl (E : Nat → Nat → Prop) (s : Nat) : Rt E s s := fun C h _ => h
theorem Rt.one {E : Nat → Nat → Prop} {a b : Nat} (h : E a b) : Rt E a b := fun C hc hs => hs a b h hc
theorem Rt.trans {E : Nat → Nat → Prop} {a b c : Nat} (h : Rt E a b) (k : Rt E b c) : Rt E a c := fun C hc hs => k C (h C hc hs) hs
theorem Rt.symm {E : Nat → Nat → Prop} (hE : ∀ a b, E a b → E b a) {a b : Nat} (h : Rt E a b) : Rt E b a :=
  h (fun v => Rt E v a) (.refl E a) (fun x y hxy hx => (Rt.one (hE x y hxy)).trans hx)
theorem Dst.rt {n s : Nat} {E : Nat → Nat → Prop} {out : List Nat} (h : Dst n E s out) (v : Nat) : at_ out v ≠ farN ↔ Rt E s v := by
  constructor
  · have : ∀ (d v : Nat), at_ out v = d → at_ out v ≠ farN → Rt E s v := by
      intro d
      induction d with
      | zero =>
        intro v hd hf
        rcases h.pre v hf with ⟨e, _⟩ | ⟨u, _, _, h1⟩
        · subst e; exact .refl E _
        · omega
      | succ d ih =>
        intro v hd hf
        rcases h.pre v hf with ⟨_, h0⟩ | ⟨u, he, hu, h1⟩
        · omega
        · exact (ih u (by omega) hu).trans (.one he)
    exact this _ v rfl
  · intro hr
    exact hr (fun v => at_ out v ≠ farN) (by rw [h.src]; decide) (fun a b hab ha => (h.edge a b hab ha).1)
def mark (v : Nat) (l out : List Nat) : List Nat := (List.range l.length).foldl (fun o u => if at_ l u ≠ farN then o.set u v else o) out
def markTo (v : Nat) (l out : List Nat) (k : Nat) : List Nat := (List.range k).foldl (fun o u => if at_ l u ≠ farN then o.set u v else o) out
theorem markTo_succ (v : Nat) (l out : List Nat) (k : Nat) : markTo v l out (k + 1) = if at_ l k ≠ farN then (markTo v l out k).set k v else markTo v l out k := by
  unfold markTo
  rw [List.range_succ, List.foldl_append]
  rfl
theorem markTo_len (v : Nat) (l out : List Nat) : ∀ k, (markTo v l out k).length = out.length
  | 0 => rfl
  | k + 1 => by
    rw [markTo_succ]
    split
    · rw [List.length_set]; exact markTo_len v l out k
    · exact markTo_len v l out k
theorem markTo_at (v : Nat) (l out : List Nat) (u : Nat) : ∀ k, k ≤ out.length → at_ (markTo v l out k) u = if u < k ∧ at_ l u ≠ farN then v else at_ out u
  | 0, _ => by rw [if_neg (by omega)]; rfl
  | k + 1, hk => by
    have ih := markTo_at v l out u k (by omega)
    rw [markTo_succ]
    split
    · rename_i h
      rw [at_set (by rw [markTo_len]; omega)]
      by_cases e : u = k
      · subst e; rw [if_pos rfl, if_pos ⟨by omega, h⟩]
      · rw [if_neg e, ih]
        by_cases c : u < k ∧ at_ l u ≠ farN
        · rw [if_pos c, if_pos ⟨by omega, c.2⟩]
        · rw [if_neg c, if_neg (fun q => c ⟨by omega, q.2⟩)]
    · rename_i h
      rw [ih]
      by_cases c : u < k ∧ at_ l u ≠ farN
      · rw [if_pos c, if_pos ⟨by omega, c.2⟩]
      · rw [if_neg c, if_neg]
        rintro ⟨q1, q2⟩
        by_cases e : u = k
        · subst e; exact h q2
        · exact c ⟨by omega, q2⟩
def labStep (all : List (List Int)) (S : List Nat × Nat) (v : Nat) : List Nat × Nat := if at_ S.1 v ≠ farN then S else (mark v (bfs all v) S.1, Nat.max S.2 (grt (bfs all v)))
def labTo (all : List (List Int)) (k : Nat) : List Nat × Nat := (List.range k).foldl (labStep all) (List.replicate all.length farN, 0)
def labs (all : List (List Int)) : List Nat × Nat := labTo all all.length
theorem labTo_succ (all : List (List Int)) (k : Nat) : labTo all (k + 1) = labStep all (labTo all k) k := by
  unfold labTo
  rw [List.range_succ, List.foldl_append]
  rfl
structure LabInv (n : Nat) (D : Nat → List Nat) (k : Nat) (out : List Nat) (most : Nat) : Prop where
  len : out.length = n
  at_ : ∀ u, u < n → (E.at_ out u = farN ∧ ∀ x, x < k → E.at_ (D x) u = farN) ∨ (E.at_ out u < k ∧ E.at_ (D (E.at_ out u)) u ≠ farN ∧ ∀ x, x < n → E.at_ (D x) u ≠ farN → E.at_ out u ≤ x)
  top : ∀ u, u < n → E.at_ out u ≠ farN → E.at_ (D (E.at_ out u)) u ≤ most
  hit : most = 0 ∨ ∃ u, u < n ∧ E.at_ out u ≠ farN ∧ E.at_ (D (E.at_ out u)) u = most
theorem labTo_inv {n : Nat} {all : List (List Int)} {E : Nat → Nat → Prop} (hE : ∀ a b, E a b → E b a) (hlen : all.length = n) (hn : n < farN) (hD : ∀ x, x < n → Dst n E x (bfs all x)) : ∀ k, k ≤ n → LabInv n (bfs all) k (labTo all k).1 (labTo all k).2
  | 0, _ => by
    have h0 : ∀ u, at_ (List.replicate all.length farN) u = farN := fun u => by
      unfold at_
      by_cases h : u < all.length <;> simp [List.getD, h]
    exact ⟨by simp [labTo, hlen], fun u hu => .inl ⟨h0 u, fun x hx => by omega⟩, fun u hu hf => absurd (h0 u) hf, .inl rfl⟩
  | k + 1, hk => by
    have ih := labTo_inv hE hlen hn hD k (by omega)
    have hkn : k < n := hk
    rw [labTo_succ]
    generalize labTo all k = S at ih
    obtain ⟨out, most⟩ := S
    replace ih : LabInv n (bfs all) k out most := ih
    have far : ∀ x y, x < n → y < n → ∀ u, at_ (bfs all x) u ≠ farN → at_ (bfs all y) u ≠ farN → at_ (bfs all x) y ≠ farN := fun x y hx hy u h1 h2 =>
      ((hD x hx).rt y).2 ((((hD x hx).rt u).1 h1).trans ((((hD y hy).rt u).1 h2).symm hE))
    have thr : ∀ x y, x < n → y < n → ∀ u, at_ (bfs all x) y ≠ farN → at_ (bfs all y) u ≠ farN → at_ (bfs all x) u ≠ farN := fun x y hx hy u h1 h2 =>
      ((hD x hx).rt u).2 ((((hD x hx).rt y).1 h1).trans (((hD y hy).rt u).1 h2))
    unfold labStep
    dsimp only
    split
    · rename_i hf
      refine ⟨ih.len, fun u hu => ?_, ih.top, ih.hit⟩
      rcases ih.at_ u hu with ⟨h1, h2⟩ | ⟨h1, h2, h3⟩
      · refine .inl ⟨h1, fun x hx => ?_⟩
        by_cases e : x = k
        · subst e
          rcases ih.at_ x hkn with ⟨q1, _⟩ | ⟨q1, q2, _⟩
          · exact absurd q1 hf
          · apply Classical.byContradiction
            intro hc
            exact thr (at_ out x) x (by omega) hkn u q2 hc (h2 _ q1)
        · exact h2 x (by omega)
      · exact .inr ⟨Nat.lt_succ_of_lt h1, h2, h3⟩
    · rename_i hf
      have hf : at_ out k = farN := Classical.byContradiction hf
      have hno : ∀ x, x < k → at_ (bfs all x) k = farN := by
        rcases ih.at_ k hkn with ⟨_, q⟩ | ⟨q1, _⟩
        · exact q
        · omega
      have hm : ∀ u, at_ (mark k (bfs all k) out) u = if at_ (bfs all k) u ≠ farN then k else at_ out u := fun u => by
        have e : mark k (bfs all k) out = markTo k (bfs all k) out (bfs all k).length := rfl
        rw [e, markTo_at _ _ _ _ _ (by rw [(hD k hkn).len, ih.len]; exact Nat.le_refl _)]
        by_cases c : at_ (bfs all k) u ≠ farN
        · rw [if_pos ⟨at_lt c, c⟩, if_pos c]
        · rw [if_neg (fun q => c q.2), if_neg c]
      have hapart : ∀ u, u < n → at_ out u ≠ farN → at_ (bfs all k) u = farN := fun u hu hfu => by
        apply Classical.byContradiction
        intro hc
        rcases ih.at_ u hu with ⟨q, _⟩ | ⟨q1, q2, _⟩
        · exact hfu q
        · exact far (at_ out u) k (Nat.lt_trans q1 hkn) hkn u q2 hc (hno _ q1)
      refine ⟨?_, fun u hu => ?_, fun u hu hfu => ?_, ?_⟩
      · have e : mark k (bfs all k) out = markTo k (bfs all k) out (bfs all k).length := rfl
        rw [e, markTo_len]; exact ih.len
      · rw [hm]
        by_cases c : at_ (bfs all k) u ≠ farN
        · rw [if_pos c]
          refine .inr ⟨by omega, c, fun x hx hxu => ?_⟩
          apply Classical.byContradiction
          intro hlt
          exact far x k hx hkn u hxu c (hno x (by omega))
        · rw [if_neg c]
          have c : at_ (bfs all k) u = farN := Classical.byContradiction c
          rcases ih.at_ u hu with ⟨h1, h2⟩ | ⟨h1, h2, h3⟩
          · refine .inl ⟨h1, fun x hx => ?_⟩
            by_cases e : x = k
            · subst e; exact c
            · exact h2 x (by omega)
          · exact .inr ⟨by omega, h2, h3⟩
      · rw [hm] at hfu ⊢
        by_cases c : at_ (bfs all k) u ≠ farN
        · rw [if_pos c]
          exact Nat.le_trans ((grt_max _).1 _ (at_mem (at_lt c)) c) (Nat.le_max_right _ _)
        · rw [if_neg c] at hfu ⊢
          exact Nat.le_trans (ih.top u hu hfu) (Nat.le_max_left _ _)
      · rcases Nat.le_total most (grt (bfs all k)) with hle | hle
        · rw [show Nat.max most (grt (bfs all k)) = grt (bfs all k) from Nat.max_eq_right hle]
          rcases (grt_max (bfs all k)).2 with h0 | ⟨h1, h2⟩
          · exact .inl h0
          · obtain ⟨u, hu, e⟩ := mem_at h1
            rw [(hD k hkn).len] at hu
            refine .inr ⟨u, hu, ?_, ?_⟩ <;> rw [hm, if_pos (by rw [e]; exact h2)]
            · omega
            · exact e
        · rw [show Nat.max most (grt (bfs all k)) = most from Nat.max_eq_left hle]
          rcases ih.hit with h0 | ⟨u, hu, h1, h2⟩
          · exact .inl h0
          · refine .inr ⟨u, hu, ?_, ?_⟩ <;> rw [hm, if_neg (fun q => q (hapart u hu h1))]
            · exact h1
            · exact h2
/-- What the labels are. -/
structure Lab (n : Nat) (D : Nat → List Nat) (out : List Nat) (most : Nat) : Prop where
  len : out.length = n
  le : ∀ u, u < n → E.at_ out u ≤ u
  got : ∀ u, u < n → E.at_ (D (E.at_ out u)) u ≠ farN
  least : ∀ u, u < n → ∀ x, x < n → E.at_ (D x) u ≠ farN → E.at_ out u ≤ x
  top : ∀ u, u < n → E.at_ (D (E.at_ out u)) u ≤ most
  hit : most = 0 ∨ ∃ u, u < n ∧ E.at_ (D (E.at_ out u)) u = most
theorem labs_lab {n : Nat} {all : List (List Int)} {E : Nat → Nat → Prop} (hE : ∀ a b, E a b → E b a) (hlen : all.length = n) (hn : n < farN) (hD : ∀ x, x < n → Dst n E x (bfs all x)) : Lab n (bfs all) (labs all).1 (labs all).2 := by
  have h := labTo_inv hE hlen hn hD n (Nat.le_refl _)
  have e : labs all = labTo all n := by unfold labs; rw [hlen]
  rw [← e] at h
  have h0 : ∀ u, u < n → at_ (bfs all u) u ≠ farN := fun u hu => by rw [(hD u hu).src]; decide
  have h2 : ∀ u, u < n → at_ (labs all).1 u < n ∧ at_ (bfs all (at_ (labs all).1 u)) u ≠ farN ∧ ∀ x, x < n → at_ (bfs all x) u ≠ farN → at_ (labs all).1 u ≤ x := fun u hu => by
    rcases h.at_ u hu with ⟨_, q⟩ | q
    · exact absurd (q u hu) (h0 u hu)
    · exact q
  exact ⟨h.len, fun u hu => (h2 u hu).2.2 u hu (h0 u hu), fun u hu => (h2 u hu).2.1, fun u hu => (h2 u hu).2.2, fun u hu => h.top u hu (by have := (h2 u hu).1; omega), h.hit.imp id (fun ⟨u, hu, _, e⟩ => ⟨u, hu, e⟩)⟩
/-! ### The document's -/
def stepL (now out : List Nat) (e : Ed) : List Nat :=
  (out.set e.1.toNat (min (at_ out e.1.toNat) (at_ now e.2.toNat))).set e.2.toNat (min (at_ (out.set e.1.toNat (min (at_ out e.1.toNat) (at_ now e.2.toNat))) e.2.toNat) (at_ now e.1.toNat))
def nextL (now : List Nat) (L : List Ed) : List Nat := L.foldl (stepL now) now
theorem stepL_len (now out : List Nat) (e : Ed) : (stepL now out e).length = out.length := by unfold stepL; simp
theorem nextL_len (now : List Nat) (L : List Ed) : (nextL now L).length = now.length := by
  unfold nextL
  exact fold_inv0 (fun _ o => o.length = now.length) L now rfl (fun _ o e h _ => (stepL_len now o e).trans h)
def Both (L : List Ed) (u v : Nat) : Prop := LeadsE L u v ∨ LeadsE L v u
theorem both_symm (L : List Ed) : ∀ a b, Both L a b → Both L b a := fun a b h => h.symm
theorem stepL_at {now out : List Nat} {a z : Nat} (ha : a < out.length) (hz : z < out.length) (v : Nat) :
    at_ (stepL now out ((a : Int), (z : Int))) v = if v = z then (if v = a then min (min (at_ out v) (at_ now z)) (at_ now a) else min (at_ out v) (at_ now a)) else if v = a then min (at_ out v) (at_ now z) else at_ out v := by
  unfold stepL
  simp only [Int.toNat_natCast]
  rw [at_set (by simpa using hz), at_set ha, at_set ha]
  by_cases e : v = z
  · subst e
    rw [if_pos rfl, if_pos rfl]
    by_cases e2 : v = a
    · subst e2; rw [if_pos rfl, if_pos rfl]
    · rw [if_neg e2, if_neg e2]
  · rw [if_neg e, if_neg e]
    by_cases e2 : v = a
    · subst e2; simp
    · rw [if_neg e2, if_neg e2]
theorem nextL_at {n : Nat} {now : List Nat} {L : List Ed} (hL : Edges n L) (hn : now.length = n) (v : Nat) :
    at_ (nextL now L) v ≤ at_ now v ∧ (at_ (nextL now L) v = at_ now v ∨ ∃ u, Both L u v ∧ at_ (nextL now L) v = at_ now u) ∧ (∀ u, Both L u v → at_ (nextL now L) v ≤ at_ now u) := by
  have key := fold_inv0 (f := stepL now) (fun done o => o.length = n ∧ at_ o v ≤ at_ now v ∧ (at_ o v = at_ now v ∨ ∃ u, Both L u v ∧ at_ o v = at_ now u) ∧ (∀ u, Both done u v → at_ o v ≤ at_ now u)) L now
    ⟨hn, Nat.le_refl _, .inl rfl, fun u h => by rcases h with h | h <;> exact absurd h (by simp [LeadsE])⟩ (fun done o e h he => by
      obtain ⟨h0, h1, h2, h3⟩ := h
      obtain ⟨e1, e2, e3, e4⟩ := hL e he
      obtain ⟨x, y⟩ := e
      dsimp only at e1 e2 e3 e4
      obtain ⟨a, rfl⟩ : ∃ a : Nat, x = (a : Int) := ⟨x.toNat, by omega⟩
      obtain ⟨z, rfl⟩ : ∃ a : Nat, y = (a : Int) := ⟨y.toNat, by omega⟩
      have hz : z < o.length := by omega
      have ha : a < o.length := by omega
      refine ⟨by rw [stepL_len]; exact h0, ?_⟩
      have key2 : ∀ u, Both (done ++ [((a : Int), (z : Int))]) u v → Both done u v ∨ (u = a ∧ v = z) ∨ (u = z ∧ v = a) := fun u hu => by
        rcases hu with hu | hu
        · rcases List.mem_append.1 hu with hu | hu
          · exact .inl (.inl hu)
          · have := List.mem_singleton.1 hu
            injection this with q1 q2
            exact .inr (.inl ⟨by omega, by omega⟩)
        · rcases List.mem_append.1 hu with hu | hu
          · exact .inl (.inr hu)
          · have := List.mem_singleton.1 hu
            injection this with q1 q2
            exact .inr (.inr ⟨by omega, by omega⟩)
      have hle : at_ (stepL now o ((a : Int), (z : Int))) v ≤ at_ o v ∧ (v = z → at_ (stepL now o ((a : Int), (z : Int))) v ≤ at_ now a) ∧ (v = a → at_ (stepL now o ((a : Int), (z : Int))) v ≤ at_ now z) ∧
          (at_ (stepL now o ((a : Int), (z : Int))) v = at_ o v ∨ (v = z ∧ at_ (stepL now o ((a : Int), (z : Int))) v = at_ now a) ∨ (v = a ∧ at_ (stepL now o ((a : Int), (z : Int))) v = at_ now z)) := by
        rw [stepL_at ha hz]
        by_cases e : v = z
        · by_cases e2 : v = a
          · rw [if_pos e, if_pos e2]; simp only [Nat.min_def]; split <;> split <;> omega
          · rw [if_pos e, if_neg e2]; simp only [Nat.min_def]; split <;> omega
        · by_cases e2 : v = a
          · rw [if_neg e, if_pos e2]; simp only [Nat.min_def]; split <;> omega
          · rw [if_neg e, if_neg e2]; omega
      generalize at_ (stepL now o ((a : Int), (z : Int))) v = y at hle ⊢
      obtain ⟨k1, k2, k3, k4⟩ := hle
      refine ⟨by omega, ?_, fun u hu => ?_⟩
      · rcases k4 with k | ⟨kv, k⟩ | ⟨kv, k⟩
        · rcases h2 with h2 | ⟨u, hu, h2⟩
          · exact .inl (by omega)
          · exact .inr ⟨u, hu, by omega⟩
        · subst kv; exact .inr ⟨a, .inl he, k⟩
        · subst kv; exact .inr ⟨z, .inr he, k⟩
      · rcases key2 u hu with q | ⟨q1, q2⟩ | ⟨q1, q2⟩
        · exact Nat.le_trans k1 (h3 u q)
        · rw [q1]; exact k2 q2
        · rw [q1]; exact k3 q2)
  exact ⟨key.2.1, key.2.2.1, key.2.2.2⟩
theorem iterL {n : Nat} {L : List Ed} {D : Nat → List Nat} (hL : Edges n L) (hD : ∀ x, x < n → Dst n (Both L) x (D x)) : ∀ m, m < farN → (iter (fun x => nextL x L) (List.range n) m).length = n ∧ ∀ v, v < n →
    (at_ (iter (fun x => nextL x L) (List.range n) m) v < n ∧ at_ (D (at_ (iter (fun x => nextL x L) (List.range n) m) v)) v ≤ m) ∧ ∀ x, x < n → at_ (D x) v ≤ m → at_ (iter (fun x => nextL x L) (List.range n) m) v ≤ x
  | 0, _ => by
    have h0 : ∀ v, v < n → at_ (List.range n) v = v := fun v hv => by simp [at_, List.getD, hv]
    refine ⟨by simp [iter], fun v hv => ?_⟩
    show (at_ (List.range n) v < n ∧ at_ (D (at_ (List.range n) v)) v ≤ 0) ∧ ∀ x, x < n → at_ (D x) v ≤ 0 → at_ (List.range n) v ≤ x
    rw [h0 v hv]
    refine ⟨⟨hv, by rw [(hD v hv).src]; exact Nat.le_refl _⟩, fun x hx h => ?_⟩
    have hz : at_ (D x) v = 0 := by omega
    rcases (hD x hx).pre v (by rw [hz]; decide) with ⟨e, _⟩ | ⟨u, _, _, e⟩
    · omega
    · omega
  | m + 1, hm => by
    obtain ⟨ih0, ih⟩ := iterL hL hD m (by omega)
    show (nextL (iter _ _ m) L).length = n ∧ ∀ v, v < n → (at_ (nextL (iter _ _ m) L) v < n ∧ at_ (D (at_ (nextL (iter _ _ m) L) v)) v ≤ m + 1) ∧ ∀ x, x < n → at_ (D x) v ≤ m + 1 → at_ (nextL (iter _ _ m) L) v ≤ x
    generalize iter (fun x => nextL x L) (List.range n) m = now at ih0 ih
    refine ⟨by rw [nextL_len]; exact ih0, fun v hv => ?_⟩
    obtain ⟨h1, h2, h3⟩ := nextL_at hL ih0 v
    have hlt : ∀ u, Both L u v → u < n := fun u hu => by
      rcases hu with hu | hu
      · have := hL _ hu; dsimp only at this; omega
      · have := hL _ hu; dsimp only at this; omega
    refine ⟨?_, fun x hx hxv => ?_⟩
    · rcases h2 with h2 | ⟨u, hu, h2⟩
      · rw [h2]
        have := (ih v hv).1
        exact ⟨this.1, by omega⟩
      · rw [h2]
        have h4 := (ih u (hlt u hu)).1
        have h5 := (hD _ h4.1).edge u v hu (by omega)
        exact ⟨h4.1, by omega⟩
    · by_cases c : at_ (D x) v ≤ m
      · exact Nat.le_trans h1 ((ih v hv).2 x hx c)
      · rcases (hD x hx).pre v (by omega) with ⟨_, e⟩ | ⟨u, hu, _, e⟩
        · omega
        · exact Nat.le_trans (h3 u hu) ((ih u (hlt u hu)).2 x hx (by omega))
theorem roundsL {n most : Nat} {L : List Ed} {D : Nat → List Nat} {out : List Nat} (hL : Edges n L) (hn : n < 1000) (hD : ∀ x, x < n → Dst n (Both L) x (D x)) (h : Lab n D out most) :
    iter (fun x => nextL x L) (List.range n) (most + 1) = out ∧ iter (fun x => nextL x L) (List.range n) most = out ∧ ∀ k, k < most → iter (fun x => nextL x L) (List.range n) (k + 1) ≠ iter (fun x => nextL x L) (List.range n) k := by
  have hf : (1000 : Nat) < farN := by decide
  have hmost : most < n ∨ most = 0 := by
    rcases h.hit with h0 | ⟨u, hu, e⟩
    · exact .inr h0
    · have := (hD (at_ out u) (by have := h.le u hu; omega)).lt u (h.got u hu)
      exact .inl (by omega)
  have fin : ∀ m, most ≤ m → m < farN → iter (fun x => nextL x L) (List.range n) m = out := fun m hm hmf => by
    obtain ⟨i0, i1⟩ := iterL hL hD m hmf
    refine at_ext (by rw [i0, h.len]) (fun v hv => ?_)
    rw [i0] at hv
    obtain ⟨⟨j1, j2⟩, j3⟩ := i1 v hv
    have k1 := j3 (at_ out v) (by have := h.le v hv; omega) (by have := h.top v hv; omega)
    have k2 := h.least v hv _ j1 (by omega)
    omega
  refine ⟨fin _ (by omega) (by omega), fin _ (Nat.le_refl _) (by omega), fun k hk e => ?_⟩
  rcases h.hit with h0 | ⟨u, hu, eu⟩
  · omega
  · have hr : at_ out u < n := by have := h.le u hu; omega
    have hdr := hD _ hr
    obtain ⟨v, hv, ev, _⟩ := hdr.down (most - (k + 1)) u (h.got u hu) (k + 1) (by rw [eu]; omega)
    obtain ⟨_, i1⟩ := iterL hL hD k (by omega)
    obtain ⟨_, i2⟩ := iterL hL hD (k + 1) (by omega)
    obtain ⟨⟨j1, j2⟩, j3⟩ := i1 v hv
    obtain ⟨⟨l1, l2⟩, l3⟩ := i2 v hv
    have m1 := l3 (at_ out u) hr (by omega)
    have hrv : at_ (D (at_ out u)) v ≠ farN := by omega
    have m2 : ∀ x, x < n → at_ (D x) v ≠ farN → at_ out u ≤ x := fun x hx hxv => by
      refine h.least u hu x hx (((hD x hx).rt u).2 ?_)
      exact (((hD x hx).rt v).1 hxv).trans (((hdr.rt v).1 hrv).symm (both_symm L) |>.trans ((hdr.rt u).1 (h.got u hu)))
    have m3 := m2 _ j1 (by omega)
    have : at_ (iter (fun x => nextL x L) (List.range n) (k + 1)) v = at_ (iter (fun x => nextL x L) (List.range n) k) v := by rw [e]
    rw [this] at m1
    have e2 : at_ (iter (fun x => nextL x L) (List.range n) k) v = at_ out u := by omega
    rw [e2] at j2
    omega
end Go.Proofs.Ytpmgkmodpneiiaa.E
