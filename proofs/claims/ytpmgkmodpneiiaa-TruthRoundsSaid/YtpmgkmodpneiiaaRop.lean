/- Rounds: how many a job takes, on any edges, on a path, on none. Plain. Conditions: those that each theorem names. -/
import Derived.Test.YtpmgkmodpneiiaaLbp
import Derived.Test.YtpmgkmodpneiiaaFal
namespace Go.Proofs.Ytpmgkmodpneiiaa.E
set_option linter.unusedVariables false
set_option linter.unusedSimpArgs false
def pathTo (k : Nat) : List Ed := (List.range k).map fun v : Nat => ((v : Int), (v : Int) + 1)
theorem path_fix : ∀ k, k < 60 → nrm (pathTo k) = pathTo k := by decide +kernel
theorem path_succ (k : Nat) : pathTo (k + 1) = pathTo k ++ [((k : Int), (k : Int) + 1)] := by
  unfold pathTo
  rw [List.range_succ, List.map_append]
  rfl
theorem path_good {n : Nat} (h1 : 1 ≤ n) (h2 : n ≤ 60) : Good n (pathTo (n - 1)) := by
  refine ⟨h1, h2, by simp [pathTo]; omega, fun e he => ?_, path_fix _ (by omega)⟩
  unfold pathTo at he
  obtain ⟨v, hv, rfl⟩ := List.mem_map.1 he
  have := List.mem_range.1 hv
  refine ⟨?_, ?_, ?_, ?_, ?_⟩ <;> simp <;> omega
theorem path_leads {k u v : Nat} : LeadsE (pathTo k) u v ↔ u < k ∧ v = u + 1 := by
  unfold LeadsE pathTo
  simp only [List.mem_map, List.mem_range, Prod.mk.injEq]
  constructor
  · rintro ⟨x, hx, h1, h2⟩
    constructor <;> omega
  · rintro ⟨h1, h2⟩
    exact ⟨u, h1, rfl, by omega⟩
theorem long_path {n : Nat} (h1 : 1 ≤ n) (h2 : n ≤ 60) : (job n (pathTo (n - 1)) 1 0).2 = n := by
  have hg := path_good h1 h2
  have hd := job_one hg (s := 0) (by omega)
  have e : (job n (pathTo (n - 1)) 1 ((0 : Nat) : Int)).1 = bfs (ofOut n (pathTo (n - 1))) 0 := by unfold job; rw [if_pos rfl, Int.toNat_natCast]
  have e2 : (job n (pathTo (n - 1)) 1 0).2 = grt (bfs (ofOut n (pathTo (n - 1))) 0) + 1 := by unfold job; rw [if_pos rfl]; rfl
  rw [e] at hd
  rw [e2]
  generalize bfs (ofOut n (pathTo (n - 1))) 0 = out at *
  have hv : ∀ v, v < n → at_ out v = v := by
    intro v
    induction v with
    | zero => intro _; exact hd.src
    | succ v ih =>
      intro hv
      have i := ih (by omega)
      have hf : at_ out v ≠ farN := by rw [i]; unfold farN; omega
      have he := hd.edge v (v + 1) (path_leads.2 ⟨by omega, rfl⟩) hf
      rcases hd.pre (v + 1) he.1 with ⟨q, _⟩ | ⟨u, hu, _, q⟩
      · omega
      · have := (path_leads.1 hu).2
        have : u = v := by omega
        rw [this, i] at q
        exact q
  have hlen := hd.len
  have hup : n - 1 ≤ grt out := by
    have hm := hv (n - 1) (by omega)
    have := (grt_max out).1 (at_ out (n - 1)) (at_mem (by omega)) (by rw [hm]; unfold farN; omega)
    omega
  have hdn : grt out < n := grt_lt hd h1
  omega
theorem low_path {n : Nat} (h1 : 1 ≤ n) (h2 : n ≤ 60) : (job n (pathTo (n - 1)) 3 0).2 = n := by
  have hg := path_good h1 h2
  obtain ⟨a, d⟩ := lab_good hg
  have e2 : (job n (pathTo (n - 1)) 3 0).2 = (labs (ofAll n (pathTo (n - 1)))).2 + 1 := by unfold job; rw [if_neg (by decide), if_neg (by decide), if_pos rfl]
  rw [e2]
  have hz : ∀ v, v < n → at_ (labs (ofAll n (pathTo (n - 1)))).1 v = 0 := by
    intro v
    induction v with
    | zero => intro hv; have := a.le 0 hv; omega
    | succ v ih =>
      intro hv
      rw [← lab_edge hg (path_leads.2 ⟨by omega, rfl⟩ : LeadsE (pathTo (n - 1)) v (v + 1))]
      exact ih (by omega)
  have d0 := d 0 (by omega)
  have hlo : ∀ (m v : Nat), at_ (bfs (ofAll n (pathTo (n - 1))) 0) v = m → m ≠ farN → v ≤ m := by
    intro m
    induction m with
    | zero =>
      intro v hv hf
      rcases d0.pre v (by rw [hv]; exact hf) with ⟨q, _⟩ | ⟨u, _, _, q⟩
      · omega
      · omega
    | succ m ih =>
      intro v hv hf
      rcases d0.pre v (by rw [hv]; exact hf) with ⟨q, _⟩ | ⟨u, hu, huf, q⟩
      · omega
      · have hb := ih u (by omega) (by rw [hv] at q; omega)
        rcases hu with hu | hu
        · have := (path_leads.1 hu).2; omega
        · have := (path_leads.1 hu).2; omega
  have hup : ∀ v, v < n → at_ (bfs (ofAll n (pathTo (n - 1))) 0) v ≠ farN ∧ at_ (bfs (ofAll n (pathTo (n - 1))) 0) v ≤ v := by
    intro v
    induction v with
    | zero => intro _; rw [d0.src]; exact ⟨by decide, Nat.le_refl _⟩
    | succ v ih =>
      intro hv
      obtain ⟨q1, q2⟩ := ih (by omega)
      have := d0.edge v (v + 1) (.inl (path_leads.2 ⟨by omega, rfl⟩)) q1
      exact ⟨this.1, by omega⟩
  have ht := a.top (n - 1) (by omega)
  rw [hz _ (by omega)] at ht
  have hl := hlo _ (n - 1) rfl (hup (n - 1) (by omega)).1
  rcases a.hit with h0 | ⟨u, hu, q⟩
  · omega
  · rw [hz u hu] at q
    have := (hup u hu).2
    omega
theorem empty_good {n : Nat} (h1 : 1 ≤ n) (h2 : n ≤ 60) : Good n [] := ⟨h1, h2, by simp, fun e he => absurd he (by simp), rfl⟩
theorem none_rounds {n : Nat} (h1 : 1 ≤ n) (h2 : n ≤ 60) : (job n [] 3 0).2 = 1 := by
  have hg := empty_good h1 h2
  obtain ⟨a, d⟩ := lab_good hg
  have e2 : (job n [] 3 0).2 = (labs (ofAll n [])).2 + 1 := by unfold job; rw [if_neg (by decide), if_neg (by decide), if_pos rfl]
  rw [e2]
  rcases a.hit with h0 | ⟨u, hu, q⟩
  · omega
  · have hl := a.le u hu
    rcases (d _ (by omega)).pre u (a.got u hu) with ⟨_, q2⟩ | ⟨x, hx, _⟩
    · omega
    · rcases hx with hx | hx <;> cases hx
theorem many_bound {n : Nat} {L : List Ed} (h : Good n L) {k a p : Int} (hc : chk k a p n = 0) : 1 ≤ (job n L k a).2 ∧ (((job n L k a).2 : Nat) : Int) ≤ bnd k a p n ∧ (job n L k a).2 ≤ 1000 := by
  have h1 := h.n1
  have h2 := h.n2
  have hb : bnd k a p n = if k = 2 then a else (n : Int) + 1 := by unfold bnd; rw [if_neg (by rw [hc]; simp)]
  rw [hb]
  rcases arg_zero hc with ⟨rfl, ha, hb⟩ | ⟨rfl, ha, hb⟩ | ⟨rfl, rfl⟩ | ⟨rfl, ha, hb⟩
  · obtain ⟨s, rfl⟩ : ∃ s : Nat, a = (s : Int) := ⟨a.toNat, by omega⟩
    have hd := job_one h (s := s) (by omega)
    have e : (job n L 1 (s : Int)).1 = bfs (ofOut n L) s := by unfold job; rw [if_pos rfl, Int.toNat_natCast]
    have e2 : (job n L 1 (s : Int)).2 = grt (bfs (ofOut n L) s) + 1 := by unfold job; rw [if_pos rfl, Int.toNat_natCast]
    rw [e] at hd
    have := grt_lt hd h1
    rw [e2, if_neg (by decide)]
    omega
  · have e2 : (job n L 2 a).2 = a.toNat := by unfold job; rw [if_neg (by decide), if_pos rfl]
    rw [e2, if_pos rfl]
    omega
  · obtain ⟨l, d⟩ := lab_good h
    have e2 : (job n L 3 0).2 = (labs (ofAll n L)).2 + 1 := by unfold job; rw [if_neg (by decide), if_neg (by decide), if_pos rfl]
    rw [e2, if_neg (by decide)]
    rcases l.hit with h0 | ⟨u, hu, q⟩
    · omega
    · have := (d _ (by have := l.le u hu; omega)).lt u (l.got u hu)
      omega
  · obtain ⟨s, rfl⟩ : ∃ s : Nat, a = (s : Int) := ⟨a.toNat, by omega⟩
    have e2 : (job n L 4 (s : Int)).2 = (cores (ofAll n L) s).2 + 1 := by unfold job; rw [if_neg (by decide), if_neg (by decide), if_neg (by decide), Int.toNat_natCast]
    obtain ⟨k, k1, k2, _⟩ := roundsC (n := n) (a := s) h.edges (by have := h.len; omega)
    rw [e2, k1, if_neg (by decide)]
    dsimp only
    omega
end Go.Proofs.Ytpmgkmodpneiiaa.E
