/- The document's files: how they lie, and what their list is. Conditions: those that each theorem names. -/
import Derived.Test.YtnpdnnaemfdinaaFli
namespace Go.Proofs.Ytnpdnnaemfdinaa.F
open Go.RowKit Go.Maps Go.Sort Go.Shelf
open Go.Proofs.Ytnpdnnaemfdinaa.Ma
set_option linter.unusedVariables false
set_option linter.unusedSimpArgs false
/-- A file of the document's: its name, where its pages lie, and they. -/
structure Rn where
  name : ByteArray
  adr : Option Addr
  cap : Nat
  ps : List ByteArray
abbrev encR (x : Rn) : List Value := [.string x.name, .slice x.adr x.ps.length x.cap]
theorem encR_len (x : Rn) : (encR x).length = 2 := rfl
def dr (L : List Rn) : List De := L.map fun x => (x.name, x.ps)
/-- A block of X, that is not r. -/
def In (X : Nat → Prop) (r : Nat) (A : Option Addr) : Prop := ∀ g o, A = some ⟨g, o, none⟩ → X g ∧ g ≠ r
/-- The document's file system; all its blocks are of X. -/
structure RfX (X : Nat → Prop) (w : World) (r : Nat) (room left : Int) (D : List De) : Prop where
  ex : ∃ (L : List Rn) (A : Option Addr) (c : Nat), dr L = D ∧ w.heap[r]? = some (.cells #[.int .i64 room, .int .i64 left, .slice A L.length c] 51 (0, 0)) ∧ Lies encR 2 w A L ∧ In X r A ∧ ∀ x ∈ L, Lies encS 1 w x.adr x.ps ∧ In X r x.adr
  box : X r
section
variable {X Y : Nat → Prop} {w w' : World} {r : Nat} {room left : Int} {D : List De}
theorem RfX.lt (h : RfX X w r room left D) : r < w.heap.size := by
  obtain ⟨L, A, c, _, h1, _⟩ := h.ex
  exact lt_of_heap h1
theorem RfX.fr {S : Nat → Prop} (h : RfX X w r room left D) (hf : Fr S w w') (hS : ∀ k, X k → ¬ S k) : RfX X w' r room left D := by
  obtain ⟨L, A, c, h1, h2, h3, h4, h5⟩ := h.ex
  exact ⟨⟨L, A, c, h1, hf.keep h2 (hS _ h.box), h3.fr hf (fun g o e => hS g (h4 g o e).1), h4, fun x hx => ⟨(h5 x hx).1.fr hf (fun g o e => hS g ((h5 x hx).2 g o e).1), (h5 x hx).2⟩⟩, h.box⟩
theorem RfX.below (h : RfX X w r room left D) (hb : Below w.heap.size w w') : RfX X w' r room left D := h.fr (Fr.of_below hb) (fun _ _ e => e)
theorem RfX.drewN (n : Nat) (h : RfX X w r room left D) : RfX X (w.drewN n) r room left D := h.fr (Fr.drewN (fun _ => False) w n) (fun _ _ e => e)
theorem RfX.mono (h : RfX X w r room left D) (hX : ∀ k, X k → Y k) : RfX Y w r room left D := by
  obtain ⟨L, A, c, h1, h2, h3, h4, h5⟩ := h.ex
  exact ⟨⟨L, A, c, h1, h2, h3, fun g o e => ⟨hX g (h4 g o e).1, (h4 g o e).2⟩, fun x hx => ⟨(h5 x hx).1, fun g o e => ⟨hX g ((h5 x hx).2 g o e).1, ((h5 x hx).2 g o e).2⟩⟩⟩, hX _ h.box⟩
theorem RfX.c0 (h : RfX X w r room left D) : w.cell? ⟨r, 0, none⟩ = some (.int .i64 room) := by obtain ⟨L, A, c, _, h1, _⟩ := h.ex; exact cell_of_heap h1 rfl
theorem RfX.c1 (h : RfX X w r room left D) : w.cell? ⟨r, 1, none⟩ = some (.int .i64 left) := by obtain ⟨L, A, c, _, h1, _⟩ := h.ex; exact cell_of_heap h1 rfl
theorem RfX.f1 (h : RfX X w r room left D) : w.frozen? ⟨r, 1, none⟩ = false := by obtain ⟨L, A, c, _, h1, _⟩ := h.ex; exact free_of_heap h1 (by simp)
theorem RfX.f2 (h : RfX X w r room left D) : w.frozen? ⟨r, 2, none⟩ = false := by obtain ⟨L, A, c, _, h1, _⟩ := h.ex; exact free_of_heap h1 (by simp)
/-- Left is laid anew. -/
theorem RfX.aim (h : RfX X w r room left D) (n : Int) : RfX X (w.setCell ⟨r, 1, none⟩ (.int .i64 n)) r room n D ∧ Fr (fun k => k = r) w (w.setCell ⟨r, 1, none⟩ (.int .i64 n)) := by
  have hf := Fr.setCell w ⟨r, 1, none⟩ (.int .i64 n)
  obtain ⟨L, A, c, h1, h2, h3, h4, h5⟩ := h.ex
  exact ⟨⟨⟨L, A, c, h1, by rw [heap_setCell_at h2]; rfl, h3.fr hf (fun g o e => (h4 g o e).2), h4, fun x hx => ⟨(h5 x hx).1.fr hf (fun g o e => ((h5 x hx).2 g o e).2), (h5 x hx).2⟩⟩, h.box⟩, hf⟩
theorem lies_r {A : Option Addr} {L : List Rn} (h : Lies encR 2 w A L) {j : Nat} {y : Rn} (hy : L[j]? = some y) : ∃ g o, A = some ⟨g, o, none⟩ ∧ g < w.heap.size ∧ w.cell? ⟨g, o + j * 2, none⟩ = some (.string y.name) ∧ w.cell? ⟨g, o + j * 2 + 1, none⟩ = some (.slice y.adr y.ps.length y.cap) := by
  obtain ⟨g, o, e, hg, hc⟩ := h j y hy
  exact ⟨g, o, e, hg, hc 0 _ rfl, hc 1 _ rfl⟩
end
/-- set, from a file on: the new one laid already, or not. -/
def setF (s : ByteArray) (y : Rn) : Bool → List Rn → List Rn
  | d, [] => if d = true then [] else [y]
  | true, z :: r => if z.name = s then setF s y true r else z :: setF s y true r
  | false, z :: r => if Op.bytesLess z.name.toList s.toList = true then z :: setF s y false r else y :: (if z.name = s then setF s y true r else z :: setF s y true r)
theorem bl_iff (a b : ByteArray) : Op.bytesLess a.toList b.toList = true ↔ nm a < nm b := by
  rw [ByteArray.toList_eq, ByteArray.toList_eq]
  rw [Go.Proofs.bytesLess_eq, decide_eq_true_eq]
theorem setF_done (s : ByteArray) (y : Rn) : ∀ L : List Rn, dr (setF s y true L) = delD s (dr L)
  | [] => rfl
  | z :: r => by
    have ih := setF_done s y r
    unfold setF
    by_cases h : z.name = s
    · rw [if_pos h, ih]
      unfold dr delD
      rw [List.map_cons, List.filter_cons_of_neg (by simp [h])]
    · rw [if_neg h]
      unfold dr delD at ih ⊢
      rw [List.map_cons, List.map_cons, List.filter_cons_of_pos, ih]
      simp only [Bool.not_eq_true', beq_eq_false_iff_ne, ne_eq]
      exact fun e => h (nm_inj e)
theorem ins_front {x : De} {D : List De} (h : ∀ p ∈ D, nm x.1 < nm p.1) : insD x D = x :: D := by
  cases D with
  | nil => rfl
  | cons z r =>
    unfold insD
    rw [if_pos ((before_lt _ _).2 (h z List.mem_cons_self))]
theorem setF_ins {s : ByteArray} {y : Rn} (hy : y.name = s) : ∀ {L : List Rn}, ((dr L).Pairwise fun p q => nm p.1 < nm q.1) → dr (setF s y false L) = insD (s, y.ps) (delD s (dr L))
  | [], _ => by
    subst hy
    rfl
  | z :: r, h => by
    have h' := h
    unfold dr at h'
    rw [List.map_cons, List.pairwise_cons] at h'
    unfold setF
    by_cases hl : Op.bytesLess z.name.toList s.toList = true
    · have hzs := (bl_iff _ _).1 hl
      rw [if_pos hl]
      have ih := setF_ins hy (L := r) h'.2
      have e1 : delD s (dr (z :: r)) = (z.name, z.ps) :: delD s (dr r) := by
        unfold dr delD
        rw [List.map_cons, List.filter_cons_of_pos]
        simp only [Bool.not_eq_true', beq_eq_false_iff_ne, ne_eq]
        intro e
        rw [e] at hzs
        exact List.lt_irrefl _ hzs
      rw [e1]
      unfold insD
      rw [if_neg (by
        intro e
        exact List.lt_irrefl _ (List.lt_trans hzs ((before_lt _ _).1 e))), ← ih]
      rfl
    · rw [if_neg hl]
      have hzs : ¬ nm z.name < nm s := fun e => hl ((bl_iff _ _).2 e)
      have e1 : dr (y :: (if z.name = s then setF s y true r else z :: setF s y true r)) = (s, y.ps) :: delD s (dr (z :: r)) := by
        have := setF_done s y (z :: r)
        unfold setF at this
        rw [← this, ← hy]
        rfl
      rw [e1]
      symm
      apply ins_front
      intro p hp
      unfold delD at hp
      obtain ⟨hp1, hp2⟩ := List.mem_filter.1 hp
      have hne : nm p.1 ≠ nm s := by simpa using hp2
      unfold dr at hp1
      rw [List.map_cons] at hp1
      have hge : ∀ {a b : List UInt8}, ¬ a < b → a ≠ b → b < a := by
        intro a b h1 h2
        rcases WideAt.bytes_total a b h2 with e | e
        · exact absurd ((before_lt _ _).1 e) h1
        · exact (before_lt _ _).1 e
      rcases List.mem_cons.1 hp1 with rfl | hp1
      · exact hge hzs hne
      · have hzp := h'.1 p hp1
        by_cases hz : nm z.name = nm s
        · rw [← hz]; exact hzp
        · exact List.lt_trans (hge hzs hz) hzp
theorem setF_set {s : ByteArray} {y : Rn} (hy : y.name = s) {L : List Rn} (h : (dr L).Pairwise fun p q => nm p.1 < nm q.1) : dr (setF s y (decide (y.ps = [])) L) = setD s y.ps (dr L) := by
  unfold setD
  by_cases h0 : y.ps = []
  · rw [if_pos h0, decide_eq_true h0]
    exact setF_done s y L
  · rw [if_neg h0, decide_eq_false h0]
    exact setF_ins hy h
theorem setF_len (s : ByteArray) (y : Rn) : ∀ (d : Bool) (L : List Rn), (setF s y d L).length ≤ L.length + 1
  | true, [] => by simp [setF]
  | false, [] => by simp [setF]
  | true, z :: r => by
    have := setF_len s y true r
    unfold setF
    split <;> simp <;> omega
  | false, z :: r => by
    have h1 := setF_len s y true r
    have h2 := setF_len s y false r
    have h3 : (setF s y true r).length ≤ r.length := by
      have := congrArg List.length (setF_done s y r)
      unfold dr delD at this
      rw [List.length_map] at this
      rw [this]
      exact Nat.le_trans (List.length_filter_le _ _) (by simp)
    unfold setF
    split
    · simp; omega
    · split <;> simp <;> omega
theorem setF_mem {s : ByteArray} {y x : Rn} : ∀ {d : Bool} {L : List Rn}, x ∈ setF s y d L → x = y ∨ x ∈ L
  | true, [], h => by simp [setF] at h
  | false, [], h => by
    simp [setF] at h
    exact .inl h
  | true, z :: r, h => by
    unfold setF at h
    split at h
    · exact (setF_mem h).imp id (List.mem_cons_of_mem _)
    · rcases List.mem_cons.1 h with rfl | h
      · exact .inr List.mem_cons_self
      · exact (setF_mem h).imp id (List.mem_cons_of_mem _)
  | false, z :: r, h => by
    unfold setF at h
    split at h
    · rcases List.mem_cons.1 h with rfl | h
      · exact .inr List.mem_cons_self
      · exact (setF_mem h).imp id (List.mem_cons_of_mem _)
    · rcases List.mem_cons.1 h with rfl | h
      · exact .inl rfl
      split at h
      · exact (setF_mem h).imp id (List.mem_cons_of_mem _)
      · rcases List.mem_cons.1 h with rfl | h
        · exact .inr List.mem_cons_self
        · exact (setF_mem h).imp id (List.mem_cons_of_mem _)
end Go.Proofs.Ytnpdnnaemfdinaa.F
