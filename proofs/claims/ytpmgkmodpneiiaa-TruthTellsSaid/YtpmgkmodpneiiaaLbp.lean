/- Labels: what they are, whichever way the edges go. Plain. Conditions: those that each theorem names. -/
import Derived.Test.YtpmgkmodpneiiaaMad
namespace Go.Proofs.Ytpmgkmodpneiiaa.E
set_option linter.unusedVariables false
set_option linter.unusedSimpArgs false
def turned (L : List Ed) : List Ed := L.map fun e => (e.2, e.1)
theorem turned_take {L : List Ed} {k : Nat} {x y : Int} (h : L[k]? = some (x, y)) : turned (L.take (k + 1)) = turned (L.take k) ++ [(y, x)] := by
  unfold turned
  rw [List.take_add_one, h, List.map_append]
  rfl
theorem turned_good {n : Nat} {L : List Ed} (h : Good n L) : Good n (nrm (turned L)) ∧ normC n (turned L) = (0, nrm (turned L)) := by
  have hl : (turned L).length = L.length := by simp [turned]
  have hin : ∀ e ∈ turned L, 0 ≤ e.1 ∧ e.1 < (n : Int) ∧ 0 ≤ e.2 ∧ e.2 < (n : Int) ∧ e.1 ≠ e.2 := fun e he => by
    obtain ⟨x, hx, rfl⟩ := List.mem_map.1 he
    have := h.inn x hx
    exact ⟨this.2.2.1, this.2.2.2.1, this.1, this.2.1, fun q => this.2.2.2.2 q.symm⟩
  refine ⟨⟨h.n1, h.n2, ?_, fun e he => hin e ((nrm_mem _ e).1 he), nrm_nrm _⟩, ?_⟩
  · have := nrm_len (turned L); have := h.len; omega
  · exact norm_ok ⟨by have := h.n1; omega, by have := h.n2; omega⟩ (by have := h.len; omega) hin
theorem both_turned (L : List Ed) : Both (nrm (turned L)) = Both L := by
  funext u v
  have key : ∀ u v, LeadsE (nrm (turned L)) u v ↔ LeadsE L v u := fun u v => by
    unfold LeadsE
    rw [nrm_mem]
    unfold turned
    simp only [List.mem_map, Prod.exists, Prod.mk.injEq]
    constructor
    · rintro ⟨a, b, h, rfl, rfl⟩; exact h
    · intro h; exact ⟨_, _, h, rfl, rfl⟩
  unfold Both
  rw [key, key]
  exact propext ⟨fun h => h.symm, fun h => h.symm⟩
/-- The labels of good edges. -/
theorem lab_good {n : Nat} {L : List Ed} (h : Good n L) : Lab n (bfs (ofAll n L)) (labs (ofAll n L)).1 (labs (ofAll n L)).2 ∧ ∀ x, x < n → Dst n (Both L) x (bfs (ofAll n L) x) := by
  have hal := (ofAll_row h.edges).1
  have hn : n < farN := by have := h.n2; unfold farN; omega
  have hD : ∀ x, x < n → Dst n (Both L) x (bfs (ofAll n L) x) := fun x hx => by
    have := dst_bfs (rows_all h.edges) hal.symm (by have := h.n2; omega) hx
    rw [leads_all h.edges] at this
    exact this
  exact ⟨labs_lab (both_symm L) hal hn hD, hD⟩
theorem labs_same {n : Nat} {L M : List Ed} (h : Good n L) (h2 : Good n M) (hb : Both M = Both L) : (labs (ofAll n M)).1 = (labs (ofAll n L)).1 := by
  obtain ⟨a1, d1⟩ := lab_good h
  obtain ⟨a2, d2⟩ := lab_good h2
  rw [hb] at d2
  refine at_ext (by rw [a1.len, a2.len]) (fun v hv => ?_)
  rw [a2.len] at hv
  have l1 := a1.le v hv
  have l2 := a2.le v hv
  have q1 := a1.least v hv (at_ (labs (ofAll n M)).1 v) (by omega) (((d1 _ (by omega)).rt v).2 (((d2 _ (by omega)).rt v).1 (a2.got v hv)))
  have q2 := a2.least v hv (at_ (labs (ofAll n L)).1 v) (by omega) (((d2 _ (by omega)).rt v).2 (((d1 _ (by omega)).rt v).1 (a1.got v hv)))
  omega
theorem lab_edge {n : Nat} {L : List Ed} (h : Good n L) {u v : Nat} (he : LeadsE L u v) : at_ (labs (ofAll n L)).1 u = at_ (labs (ofAll n L)).1 v := by
  obtain ⟨a, d⟩ := lab_good h
  have hi := h.edges _ he
  dsimp only at hi
  have hu : u < n := by omega
  have hv : v < n := by omega
  have l1 := a.le u hu
  have l2 := a.le v hv
  have q1 := a.least u hu (at_ (labs (ofAll n L)).1 v) (by omega) ((d _ (by omega)).edge v u (.inr he) (a.got v hv)).1
  have q2 := a.least v hv (at_ (labs (ofAll n L)).1 u) (by omega) ((d _ (by omega)).edge u v (.inl he) (a.got u hu)).1
  omega
theorem lab_root {n : Nat} {L : List Ed} (h : Good n L) {v : Nat} (hv : v < n) : at_ (labs (ofAll n L)).1 v ≤ v ∧ at_ (labs (ofAll n L)).1 (at_ (labs (ofAll n L)).1 v) = at_ (labs (ofAll n L)).1 v := by
  obtain ⟨a, d⟩ := lab_good h
  have l1 := a.le v hv
  have l2 := a.le (at_ (labs (ofAll n L)).1 v) (by omega)
  refine ⟨l1, ?_⟩
  generalize hr : at_ (labs (ofAll n L)).1 v = r at *
  have hrn : r < n := by omega
  have g1 := a.got v hv
  rw [hr] at g1
  have g2 := a.got r hrn
  have q := a.least v hv (at_ (labs (ofAll n L)).1 r) (by omega) (((d _ (by omega)).rt v).2 ((((d _ (by omega)).rt r).1 g2).trans (((d r hrn).rt v).1 g1)))
  omega
theorem job_three (n : Nat) (L : List Ed) : (job n L 3 0).1 = (labs (ofAll n L)).1 := by unfold job; rw [if_neg (by decide), if_neg (by decide), if_pos rfl]
theorem chk_three {n : Nat} (h1 : 1 ≤ n) (h2 : n ≤ 60) : chk 3 0 0 (n : Int) = 0 := by
  unfold chk okN argOk
  rw [if_pos]
  simp
  omega
theorem labs_len {n : Nat} {L : List Ed} (h : Good n L) : (labs (ofAll n L)).1.length = n := (lab_good h).1.len
end Go.Proofs.Ytpmgkmodpneiiaa.E
