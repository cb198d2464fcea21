/- Plain lemmas on lists that rise, and on their bytes: how many, then the gaps. No condition. -/
import Derived.Test.YtnbdplhbkennfaaMa
import Derived.Test.YtnbdplhbkennfaaEncode
namespace Go.Proofs.Ytnbdplhbkennfaa.Mb
open Go.RowKit Go.Proofs.YtnbdplhbkennfaaW.PrintWords Go.Proofs.YtnbdplhbkennfaaW.PrintLast Go.Proofs.YtnbdplhbkennfaaW.PrintMore Go.Proofs.Ytnbdplhbkennfaa.Ma Go.Proofs.Ytnbdplhbkennfaa.Enc
set_option linter.unusedVariables false

/-- Does a list rise, from a number on? -/
def ups : Int → List Int → Bool
  | _, [] => true
  | nx, n :: l => decide (nx ≤ n) && ups (n + 1) l
/-- The gaps' bytes. -/
def body : Int → List Int → List UInt8
  | _, [] => []
  | nx, n :: l => enc (n - nx).toNat ++ body (n + 1) l
def listEnc (l : List Int) : List UInt8 := enc l.length ++ body 0 l
def Small (l : List Int) : Prop := ∀ x ∈ l, x ≤ 9223372036854775807
theorem ups_cons {nx n : Int} {l : List Int} : ups nx (n :: l) = true ↔ nx ≤ n ∧ ups (n + 1) l = true := by simp [ups]
theorem body_cons (nx n : Int) (l : List Int) : body nx (n :: l) = enc (n - nx).toNat ++ body (n + 1) l := rfl
theorem body_len (l : List Int) : ∀ nx, l.length ≤ (body nx l).length := by
  induction l with
  | nil => intro nx; simp [body]
  | cons n l ih =>
    intro nx
    rw [body_cons, List.length_append, List.length_cons]
    have := ih (n + 1)
    have := enc_pos (n - nx).toNat
    omega
theorem body_free : ∀ (l m : List Int) (nx : Int) (r q : List UInt8), l.length = m.length → ups nx l = true → ups nx m = true → body nx l ++ r = body nx m ++ q → l = m ∧ r = q := by
  intro l
  induction l with
  | nil =>
    intro m nx r q hl _ _ h
    cases m with
    | nil => exact ⟨rfl, h⟩
    | cons => simp at hl
  | cons n l ih =>
    intro m nx r q hl h1 h2 h
    cases m with
    | nil => simp at hl
    | cons n' m =>
      rw [ups_cons] at h1 h2
      rw [body_cons, body_cons, List.append_assoc, List.append_assoc] at h
      obtain ⟨e1, e2⟩ := enc_free _ _ _ _ h
      have e3 : n = n' := by omega
      subst e3
      obtain ⟨e4, e5⟩ := ih m (n + 1) r q (by simpa using hl) h1.2 h2.2 e2
      exact ⟨by rw [e4], e5⟩
/-- What stands at a place: a list, and the bytes behind it. -/
def ListAt (s : ByteArray) (a : Int) (l : List Int) (r : List UInt8) : Prop := 0 ≤ a ∧ a ≤ s.size ∧ ups 0 l = true ∧ Small l ∧ s.data.toList.drop a.toNat = listEnc l ++ r
theorem listEnc_free {l m : List Int} {r q : List UInt8} (hl : ups 0 l = true) (hm : ups 0 m = true) (h : listEnc l ++ r = listEnc m ++ q) : l = m ∧ r = q := by
  unfold listEnc at h
  rw [List.append_assoc, List.append_assoc] at h
  obtain ⟨e1, e2⟩ := enc_free _ _ _ _ h
  exact body_free l m 0 r q e1 hl hm e2
theorem ListAt.one {s : ByteArray} {a : Int} {l m : List Int} {r q : List UInt8} (h : ListAt s a l r) (g : ListAt s a m q) : l = m ∧ r = q := listEnc_free h.2.2.1 g.2.2.1 (h.2.2.2.2.symm.trans g.2.2.2.2)
theorem ListAt.len {s : ByteArray} {a : Int} {l : List Int} {r : List UInt8} (h : ListAt s a l r) : (s.size : Int) - r.length = a + (listEnc l).length := by
  obtain ⟨h0, h1, _, _, h⟩ := h
  have := congrArg List.length h
  rw [List.length_drop, data_length, List.length_append] at this
  omega
theorem listEnc_pos (l : List Int) : 1 ≤ (listEnc l).length := by
  unfold listEnc
  rw [List.length_append]
  have := enc_pos l.length
  omega
theorem listEnc_cut {l m : List Int} {r : List UInt8} {j : Nat} (hl : ups 0 l = true) (hm : ups 0 m = true) (hj : j < (listEnc l).length) : (listEnc l).take j ≠ listEnc m ++ r := by
  intro h
  have h1 : listEnc l ++ [] = listEnc m ++ (r ++ (listEnc l).drop j) := by
    rw [← List.append_assoc, ← h, List.take_append_drop, List.append_nil]
  have h2 := (listEnc_free hl hm h1).2
  have h3 := congrArg List.length h2
  simp at h3
  omega
open Classical in
noncomputable def decR (s : ByteArray) (a : Int) : List Int × Int × Int :=
  if h : ∃ p : List Int × List UInt8, ListAt s a p.1 p.2 then (h.choose.1, (s.size : Int) - h.choose.2.length, 0) else ([], 0, 10)
theorem decR_yes {s : ByteArray} {a : Int} {l : List Int} {r : List UInt8} (h : ListAt s a l r) : decR s a = (l, (s.size : Int) - r.length, 0) := by
  unfold decR
  have hx : ∃ p : List Int × List UInt8, ListAt s a p.1 p.2 := ⟨(l, r), h⟩
  rw [dif_pos hx]
  obtain ⟨e1, e2⟩ := hx.choose_spec.one h
  rw [e1, e2]
theorem decR_no {s : ByteArray} {a : Int} (h : ¬ ∃ l r, ListAt s a l r) : decR s a = ([], 0, 10) := by
  unfold decR
  rw [dif_neg (fun ⟨p, hp⟩ => h ⟨_, _, hp⟩)]

/-! What the rest of a list is, from a place on. -/
def RestAt (s : ByteArray) (p : Nat) (nx : Int) (d : Int) (l : List Int) (r : List UInt8) : Prop := (l.length : Int) = d ∧ ups nx l = true ∧ Small l ∧ s.data.toList.drop p = body nx l ++ r
theorem RestAt.one {s : ByteArray} {p : Nat} {nx d : Int} {l m : List Int} {r q : List UInt8} (h : RestAt s p nx d l r) (g : RestAt s p nx d m q) : l = m ∧ r = q :=
  body_free l m nx r q (by have := h.1; have := g.1; omega) h.2.1 g.2.1 (h.2.2.2.symm.trans g.2.2.2)
theorem listAt_iff {s : ByteArray} {a : Int} (h0 : 0 ≤ a) (h1 : a ≤ s.size) {l : List Int} {r : List UInt8} (hl : l.length < 18446744073709551616) : ListAt s a l r ↔ ∃ q, StandsAt s a l.length q ∧ q = body 0 l ++ r ∧ ups 0 l = true ∧ Small l := by
  constructor
  · rintro ⟨_, _, hu, hs, h⟩
    exact ⟨_, ⟨h0, h1, hl, by rw [h, listEnc, List.append_assoc]⟩, rfl, hu, hs⟩
  · rintro ⟨q, ⟨_, _, _, h⟩, rfl, hu, hs⟩
    exact ⟨h0, h1, hu, hs, by rw [h, listEnc, List.append_assoc]⟩

/-! What gaps.Encode's contract says, in these words. -/
def nextI (l : List Int) (j : Nat) : Int := if j = 0 then 0 else l[j - 1]?.getD 0 + 1
theorem nextW_eq (l : List Int) (j : Nat) (h0 : 0 ≤ nextI l j) (h1 : nextI l j ≤ 9223372036854775807) : nextW l j = nextI l j := by
  cases j with
  | zero => rfl
  | succ j =>
    unfold nextI at h0 h1 ⊢
    rw [if_neg (by omega)] at h0 h1 ⊢
    simp only [Nat.add_sub_cancel] at h0 h1 ⊢
    show wrap64 (l[j]?.getD 0 + 1) = l[j]?.getD 0 + 1
    unfold wrap64
    omega
theorem ups_drop (l : List Int) (hs : Small l) : ∀ (d j : Nat), j + d = l.length → 0 ≤ nextI l j → ups (nextI l j) (l.drop j) = true →
    ∀ i, j ≤ i → i < l.length → nextW l i = nextI l i ∧ 0 ≤ nextI l i ∧ nextI l i ≤ l[i]?.getD 0 ∧ l[i]?.getD 0 ≤ 9223372036854775807 := by
  intro d
  induction d with
  | zero => intro j hj _ _ i h1 h2; omega
  | succ d ih =>
    intro j hj h0 hu i h1 h2
    have hlt : j < l.length := by omega
    rw [List.drop_eq_getElem_cons hlt, ups_cons] at hu
    have hm := hs l[j] (List.getElem_mem hlt)
    have hg : l[j]?.getD 0 = l[j] := by simp [hlt]
    by_cases e : i = j
    · subst e
      rw [hg]
      exact ⟨nextW_eq l i h0 (by omega), h0, hu.1, hm⟩
    · have hn : nextI l (j + 1) = l[j] + 1 := by unfold nextI; rw [if_neg (by omega), Nat.add_sub_cancel, hg]
      exact ih (j + 1) (by omega) (by rw [hn]; omega) (by rw [hn]; exact hu.2) i (by omega) h2

end Go.Proofs.Ytnbdplhbkennfaa.Mb
