/- Breadth first, as the program does it, and what it comes to. Plain. Conditions: those that each theorem names. -/
import Derived.Test.YtpmgkmodpneiiaaGre
namespace Go.Proofs.Ytpmgkmodpneiiaa.E
set_option linter.unusedVariables false
set_option linter.unusedSimpArgs false
def at_ (out : List Nat) (v : Nat) : Nat := out.getD v farN
def visit (u : Nat) (S : List Nat × List Nat) (v : Int) : List Nat × List Nat := if at_ S.1 v.toNat = farN then (S.1.set v.toNat (at_ S.1 u + 1), S.2 ++ [v.toNat]) else S
def bfsGo (adj : List (List Int)) : Nat → List Nat × List Nat → List Nat
  | 0, S => S.1
  | _ + 1, (out, []) => out
  | f + 1, (out, u :: q) => bfsGo adj f ((adj.getD u []).foldl (visit u) (out, q))
def bfs (adj : List (List Int)) (s : Nat) : List Nat := bfsGo adj adj.length ((List.replicate adj.length farN).set s 0, [s])
def Leads (adj : List (List Int)) (u v : Nat) : Prop := (v : Int) ∈ adj.getD u []
structure Dst (n : Nat) (E : Nat → Nat → Prop) (s : Nat) (out : List Nat) : Prop where
  len : out.length = n
  src : at_ out s = 0
  edge : ∀ u v, E u v → at_ out u ≠ farN → at_ out v ≠ farN ∧ at_ out v ≤ at_ out u + 1
  pre : ∀ v, at_ out v ≠ farN → (v = s ∧ at_ out v = 0) ∨ ∃ u, E u v ∧ at_ out u ≠ farN ∧ at_ out v = at_ out u + 1
  lt : ∀ v, at_ out v ≠ farN → at_ out v < n
theorem at_set {out : List Nat} {i v x : Nat} (hi : i < out.length) : at_ (out.set i x) v = if v = i then x else at_ out v := by
  unfold at_
  by_cases h : v = i
  · subst h
    simp [List.getD, hi]
  · rw [if_neg h, List.getD_eq_getElem?_getD, List.getD_eq_getElem?_getD, List.getElem?_set_ne (fun e => h e.symm)]
theorem at_lt {out : List Nat} {v : Nat} (h : at_ out v ≠ farN) : v < out.length := by
  rcases Nat.lt_or_ge v out.length with h1 | h1
  · exact h1
  · exact absurd (by unfold at_; rw [List.getD_eq_getElem?_getD, List.getElem?_eq_none h1]; rfl) h
/-- Between two vertices of the queue. -/
structure Inv (n : Nat) (E : Nat → Nat → Prop) (s : Nat) (out q : List Nat) : Prop where
  len : out.length = n
  src : at_ out s = 0
  inq : ∀ a ∈ q, at_ out a ≠ farN
  srt : q.Pairwise (fun a b => at_ out a ≤ at_ out b)
  top : ∀ a ∈ q, ∀ b, at_ out b ≠ farN → at_ out b ≤ at_ out a + 1
  edge : ∀ u, at_ out u ≠ farN → u ∉ q → ∀ v, E u v → at_ out v ≠ farN ∧ at_ out v ≤ at_ out u + 1
  pre : ∀ v, at_ out v ≠ farN → (v = s ∧ at_ out v = 0) ∨ ∃ u, E u v ∧ at_ out u ≠ farN ∧ at_ out v = at_ out u + 1
  cnt : ∀ v, at_ out v ≠ farN → at_ out v + out.count farN < n
theorem count_put {out : List Nat} {i x : Nat} (hi : i < out.length) (hf : at_ out i = farN) (hx : x ≠ farN) : (out.set i x).count farN + 1 = out.count farN := by
  have h0 : out[i] = farN := by simpa [at_, List.getD, hi] using hf
  have hp : 0 < out.count farN := List.count_pos_iff.2 (h0 ▸ List.getElem_mem hi)
  rw [List.count_set hi]
  simp [h0, hx]
  omega
/-- Within one vertex's row: d is the vertex's distance. -/
structure Mid (n : Nat) (E : Nat → Nat → Prop) (s u : Nat) (done : List Int) (out q : List Nat) : Prop where
  len : out.length = n
  src : at_ out s = 0
  me : at_ out u ≠ farN
  inq : ∀ a ∈ q, at_ out a ≠ farN ∧ at_ out u ≤ at_ out a
  srt : q.Pairwise (fun a b => at_ out a ≤ at_ out b)
  top : ∀ b, at_ out b ≠ farN → at_ out b ≤ at_ out u + 1
  edge : ∀ w, at_ out w ≠ farN → w ∉ q → w ≠ u → ∀ v, E w v → at_ out v ≠ farN ∧ at_ out v ≤ at_ out w + 1
  mine : ∀ v ∈ done, at_ out v.toNat ≠ farN
  pre : ∀ v, at_ out v ≠ farN → (v = s ∧ at_ out v = 0) ∨ ∃ u, E u v ∧ at_ out u ≠ farN ∧ at_ out v = at_ out u + 1
  cnt : ∀ v, at_ out v ≠ farN → at_ out v + out.count farN < n
theorem Inv.mid {n : Nat} {E : Nat → Nat → Prop} {s u : Nat} {out q : List Nat} (h : Inv n E s out (u :: q)) : Mid n E s u [] out q :=
  ⟨h.len, h.src, h.inq u (List.mem_cons_self ..), fun a ha => ⟨h.inq a (List.mem_cons_of_mem _ ha), (List.pairwise_cons.1 h.srt).1 a ha⟩, (List.pairwise_cons.1 h.srt).2,
    fun b hb => h.top u (List.mem_cons_self ..) b hb, fun w hw hq hu v he => h.edge w hw (fun hm => by rcases List.mem_cons.1 hm with e | e <;> contradiction) v he, fun v hv => absurd hv (by simp), h.pre, h.cnt⟩
theorem Mid.step {n : Nat} {E : Nat → Nat → Prop} {s u : Nat} {done : List Int} {out q : List Nat} (h : Mid n E s u done out q) {v : Int} (hv : v.toNat < n) (he : E u v.toNat) (hn : n < farN) :
    Mid n E s u (done ++ [v]) (visit u (out, q) v).1 (visit u (out, q) v).2 := by
  unfold visit
  dsimp only
  split
  · rename_i hf
    have hd := h.cnt u h.me
    have hdn : at_ out u + 1 ≠ farN := by omega
    have hzl : v.toNat < out.length := by rw [h.len]; exact hv
    have hc := count_put hzl hf hdn
    have hz : at_ (out.set v.toNat (at_ out u + 1)) v.toNat = at_ out u + 1 := by rw [at_set hzl, if_pos rfl]
    have old : ∀ b, at_ out b ≠ farN → at_ (out.set v.toNat (at_ out u + 1)) b = at_ out b := fun b hb => by
      rw [at_set hzl, if_neg (fun e => by rw [e] at hb; exact hb hf)]
    have new : ∀ b, at_ (out.set v.toNat (at_ out u + 1)) b ≠ farN → b = v.toNat ∨ at_ out b ≠ farN := fun b hb => by
      by_cases e : b = v.toNat
      · exact .inl e
      · rw [at_set hzl, if_neg e] at hb; exact .inr hb
    have me := old u h.me
    have hl' : (out.set v.toNat (at_ out u + 1)).length = n := by rw [List.length_set]; exact h.len
    generalize out.set v.toNat (at_ out u + 1) = o' at *
    have hlen : o'.length = n := hl'
    refine ⟨hlen, by rw [old s (by rw [h.src]; decide)]; exact h.src, by rw [me]; exact h.me, fun a ha => ?_, ?_, fun b hb => ?_, fun w hw hq hu x hx => ?_, fun x hx => ?_, fun b hb => ?_, fun b hb => ?_⟩
    · rcases List.mem_append.1 ha with ha | ha
      · rw [old a (h.inq a ha).1, me]; exact h.inq a ha
      · rw [List.mem_singleton.1 ha, hz, me]; exact ⟨hdn, by omega⟩
    · rw [List.pairwise_append]
      refine ⟨?_, List.pairwise_singleton .., fun a ha b hb => ?_⟩
      · refine List.Pairwise.imp_of_mem (fun {a b} ha hb hab => ?_) h.srt
        rw [old a (h.inq a ha).1, old b (h.inq b hb).1]
        exact hab
      · rw [List.mem_singleton.1 hb, hz, old a (h.inq a ha).1]
        exact h.top a (h.inq a ha).1
    · rw [me]
      rcases new b hb with rfl | hb'
      · rw [hz]; omega
      · rw [old b hb']; exact h.top b hb'
    · rcases new w hw with rfl | hw'
      · exact absurd (List.mem_append_right _ (List.mem_singleton.2 rfl)) hq
      · have := h.edge w hw' (fun e => hq (List.mem_append_left _ e)) hu x hx
        rw [old x this.1, old w hw']
        exact this
    · rcases List.mem_append.1 hx with hx | hx
      · rw [old _ (h.mine x hx)]; exact h.mine x hx
      · rw [List.mem_singleton.1 hx, hz]; exact hdn
    · rcases new b hb with rfl | hb'
      · exact .inr ⟨u, he, by rw [me]; exact h.me, by rw [hz, me]⟩
      · rw [old b hb']
        rcases h.pre b hb' with h1 | ⟨z, h1, h2, h3⟩
        · exact .inl h1
        · exact .inr ⟨z, h1, by rw [old z h2]; exact h2, by rw [old z h2]; exact h3⟩
    · rcases new b hb with rfl | hb'
      · show at_ o' v.toNat + o'.count farN < n
        rw [hz]; omega
      · show at_ o' b + o'.count farN < n
        rw [old b hb']
        have := h.cnt b hb'
        omega
  · rename_i hf
    exact ⟨h.len, h.src, h.me, h.inq, h.srt, h.top, h.edge, fun x hx => by
      rcases List.mem_append.1 hx with hx | hx
      · exact h.mine x hx
      · rw [List.mem_singleton.1 hx]; exact hf, h.pre, h.cnt⟩
theorem Mid.fold {n : Nat} {E : Nat → Nat → Prop} {s u : Nat} (hn : n < farN) : ∀ (vs : List Int) {done : List Int} {out q : List Nat}, Mid n E s u done out q → (∀ v ∈ vs, v.toNat < n ∧ E u v.toNat) →
    Mid n E s u (done ++ vs) (vs.foldl (visit u) (out, q)).1 (vs.foldl (visit u) (out, q)).2
  | [], _, _, _, h, _ => by simpa using h
  | v :: vs, done, out, q, h, hv => by
    have h1 := h.step (hv v (List.mem_cons_self ..)).1 (hv v (List.mem_cons_self ..)).2 hn
    have h2 := Mid.fold hn vs h1 (fun x hx => hv x (List.mem_cons_of_mem _ hx))
    rw [List.append_assoc] at h2
    exact h2
theorem Mid.inv {n : Nat} {E : Nat → Nat → Prop} {s u : Nat} {done : List Int} {out q : List Nat} (h : Mid n E s u done out q) (hd : ∀ v, E u v → (v : Int) ∈ done) : Inv n E s out q := by
  refine ⟨h.len, h.src, fun a ha => (h.inq a ha).1, h.srt, fun a ha b hb => ?_, fun w hw hq x hx => ?_, h.pre, h.cnt⟩
  · have := h.top b hb
    have := (h.inq a ha).2
    omega
  · by_cases e : w = u
    · subst e
      have := h.mine _ (hd x hx)
      simp at this
      exact ⟨this, h.top x this⟩
    · exact h.edge w hw hq e x hx
/-- How much is left to do. -/
theorem visit_left (u : Nat) (out q : List Nat) (v : Int) (hv : v.toNat < out.length) (hu : at_ out u + 1 ≠ farN) :
    (visit u (out, q) v).1.length = out.length ∧ (visit u (out, q) v).1.count farN + (visit u (out, q) v).2.length = out.count farN + q.length := by
  unfold visit
  dsimp only
  split
  · rename_i hf
    have := count_put hv hf hu
    simp
    omega
  · exact ⟨rfl, rfl⟩
theorem Mid.left {n : Nat} {E : Nat → Nat → Prop} {s u : Nat} (hn : n < farN) : ∀ (vs : List Int) {done : List Int} {out q : List Nat}, Mid n E s u done out q → (∀ v ∈ vs, v.toNat < n ∧ E u v.toNat) →
    (vs.foldl (visit u) (out, q)).1.count farN + (vs.foldl (visit u) (out, q)).2.length = out.count farN + q.length
  | [], _, _, _, h, _ => rfl
  | v :: vs, done, out, q, h, hv => by
    have h1 := h.step (hv v (List.mem_cons_self ..)).1 (hv v (List.mem_cons_self ..)).2 hn
    have h2 := Mid.left hn vs h1 (fun x hx => hv x (List.mem_cons_of_mem _ hx))
    have h3 := (visit_left u out q v (by rw [h.len]; exact (hv v (List.mem_cons_self ..)).1) (by have := h.cnt u h.me; omega)).2
    rw [List.foldl_cons]
    exact h2.trans h3
theorem Inv.dst {n : Nat} {E : Nat → Nat → Prop} {s : Nat} {out : List Nat} (h : Inv n E s out []) : Dst n E s out :=
  ⟨h.len, h.src, fun u v he hu => h.edge u hu (by simp) v he, h.pre, fun v hv => by have := h.cnt v hv; omega⟩
/-- Rows of vertices. -/
def Rows (adj : List (List Int)) : Prop := ∀ r ∈ adj, ∀ v ∈ r, 0 ≤ v ∧ v < adj.length
theorem rows_get {adj : List (List Int)} (h : Rows adj) (u : Nat) : ∀ v ∈ adj.getD u [], v.toNat < adj.length ∧ Leads adj u v.toNat := by
  intro v hv
  by_cases hu : u < adj.length
  · have e : adj.getD u [] = adj[u] := by simp [List.getD, hu]
    have := h adj[u] (List.getElem_mem hu) v (e ▸ hv)
    refine ⟨by omega, ?_⟩
    unfold Leads
    rw [Int.toNat_of_nonneg this.1]
    exact hv
  · rw [List.getD_eq_getElem?_getD, List.getElem?_eq_none (Nat.le_of_not_lt hu)] at hv
    cases hv
theorem bfsGo_dst {adj : List (List Int)} (hr : Rows adj) (hn : adj.length < farN) {s : Nat} : ∀ (f : Nat) (out q : List Nat), Inv adj.length (Leads adj) s out q → out.count farN + q.length ≤ f →
    Dst adj.length (Leads adj) s (bfsGo adj f (out, q))
  | 0, out, q, h, hf => by
    have : q = [] := List.eq_nil_of_length_eq_zero (by omega)
    subst this
    exact h.dst
  | f + 1, out, [], h, hf => h.dst
  | f + 1, out, u :: q, h, hf => by
    have hv := rows_get hr u
    have h1 := h.mid.fold hn (adj.getD u []) hv
    have h2 := h1.inv (fun v hv => by rw [List.nil_append]; exact hv)
    have h3 := h.mid.left hn (adj.getD u []) hv
    unfold bfsGo
    refine bfsGo_dst hr hn f _ _ h2 ?_
    rw [h3]
    simp at hf
    omega
theorem inv_start {n s : Nat} {E : Nat → Nat → Prop} (hs : s < n) (hn : n < farN) : Inv n E s ((List.replicate n farN).set s 0) [s] := by
  have hl : s < (List.replicate n farN).length := by simpa using hs
  have ha : ∀ v, at_ ((List.replicate n farN).set s 0) v = if v = s then 0 else farN := fun v => by
    rw [at_set hl]
    congr 1
    unfold at_
    by_cases h : v < n
    · simp [List.getD, h]
    · simp [List.getD, h]
  have hc := count_put (x := 0) hl (by unfold at_; simp [List.getD, hs]) (by decide)
  simp only [List.count_replicate_self] at hc
  have hi : ∀ v, at_ ((List.replicate n farN).set s 0) v ≠ farN → v = s := fun v hv => by
    rw [ha] at hv
    by_cases e : v = s
    · exact e
    · rw [if_neg e] at hv; exact absurd rfl hv
  have h0 : at_ ((List.replicate n farN).set s 0) s = 0 := by rw [ha, if_pos rfl]
  refine ⟨by simp, h0, fun a h => ?_, List.pairwise_singleton .., fun a h b hb => ?_, fun u hu hq => ?_, fun v hv => ?_, fun v hv => ?_⟩
  · rw [List.mem_singleton.1 h, h0]; decide
  · rw [hi b hb, h0]; omega
  · exact absurd (List.mem_singleton.2 (hi u hu)) hq
  · exact .inl ⟨hi v hv, by rw [hi v hv]; exact h0⟩
  · rw [hi v hv, h0]; omega
theorem bfs_dst {adj : List (List Int)} (hr : Rows adj) (hn : adj.length < farN) {s : Nat} (hs : s < adj.length) : Dst adj.length (Leads adj) s (bfs adj s) := by
  refine bfsGo_dst hr hn _ _ _ (inv_start hs hn) ?_
  have hl : s < (List.replicate adj.length farN).length := by simpa using hs
  have hc := count_put (x := 0) hl (by unfold at_; simp [List.getD, hs]) (by decide)
  simp only [List.count_replicate_self] at hc
  simp
  omega
end Go.Proofs.Ytpmgkmodpneiiaa.E
