/- QueuePlay: what both tell in order, as steps of the pair. Conditions: those that each theorem names. -/
import Derived.Test.YtcallnhkojgnmaaRit
import Derived.Test.YtcallnhkojgnmaaPl
import Derived.Test.YtcallnhkojgnmaaSor
namespace Go.Proofs.Ytcallnhkojgnmaa.Q
open Go.RowKit Go.Sort Go.Shelf
open Go.Proofs.Ytcallnhkojgnmaa.Ma
set_option linter.unusedVariables false
set_option linter.unusedSimpArgs false
variable {W0 w w' : World} {b rb bx : Nat} {t : Tn} {L M N : List It} {v rv : Value}
theorem two_items (h : Two W0 w b rb bx t L M v rv) : Calls Try.prog 17 #[.pointer (some ⟨b, 0, none⟩)] w fun e w' => ∃ vi N, e = .returned vi ∧ N.Perm L ∧ Order N ∧ w'.ownsRow w.heap.size 31 4 vi N.length (cellsK enc4 N) ∧ Two W0 w' b rb bx t L M v rv ∧ Below w.heap.size w w' :=
  (items_any h.q).mono fun _ _ ⟨vi, N, he, hp, ho, hr, _, hb⟩ => ⟨vi, N, he, hp, ho, hr, h.other hb, hb⟩
theorem two_ritems (h : Two W0 w b rb bx t L M v rv) (hp : N.Perm M) (ho : Order N) : Calls Try.prog 18 #[.pointer (some ⟨rb, 0, none⟩)] w fun e w' => ∃ vi, e = .returned vi ∧ w'.ownsRow w.heap.size 37 4 vi N.length (cellsK enc4 N) ∧ Two W0 w' b rb bx t L M v rv ∧ Below w.heap.size w w' :=
  (ritems_at W0.heap.size rb M rv w h.r h.rok.len).mono fun _ _ ⟨vi, N', he, hp', ho', hr, hb⟩ => by
    have := order_unique hp' hp ho' ho h.rok.nodup
    subst this
    exact ⟨vi, he, hr, h.other hb, hb⟩
theorem row_set4 {V : World} {B g c j : Nat} {K : List It} {x1 x2 x3 x4 : Int} (u1 u2 u3 u4 : Int) (h : V.ownsRow B 31 4 (.slice (some ⟨g, 0, none⟩) K.length c) K.length (cellsK enc4 K)) (hx : K[j]? = some (x1, x2, x3, x4)) :
    ((((V.setCell ⟨g, j * 4, none⟩ (.int .i64 u1)).setCell ⟨g, j * 4 + 1, none⟩ (.int .i64 u2)).setCell ⟨g, j * 4 + 2, none⟩ (.int .i64 u3)).setCell ⟨g, j * 4 + 3, none⟩ (.int .i64 u4)).ownsRow B 31 4 (.slice (some ⟨g, 0, none⟩) K.length c) K.length (cellsK enc4 (K.set j (u1, u2, u3, u4))) := by
  have hj := (List.getElem?_eq_some_iff.1 hx).1
  have step : ∀ {V : World} {K' : List It} {x y : It} (i : Nat) (u : Value), K'.length = K.length → V.ownsRow B 31 4 (.slice (some ⟨g, 0, none⟩) K.length c) K.length (cellsK enc4 K') → K'[j]? = some x → i < 4 → enc4 y = (enc4 x).set i u →
      (V.setCell ⟨g, j * 4 + i, none⟩ u).ownsRow B 31 4 (.slice (some ⟨g, 0, none⟩) K.length c) K.length (cellsK enc4 (K'.set j y)) := fun i u hl hr hx hi hy => by
    rw [← hl] at hr ⊢
    exact row_set enc4_len hr hx hi hy
  have h1 := step 0 (.int .i64 u1) (y := (u1, x2, x3, x4)) rfl h hx (by omega) rfl
  have h2 := step 1 (.int .i64 u2) (y := (u1, u2, x3, x4)) (by simp) h1 (List.getElem?_set_self hj) (by omega) rfl
  have h3 := step 2 (.int .i64 u3) (y := (u1, u2, u3, x4)) (by simp) h2 (List.getElem?_set_self (by simpa using hj)) (by omega) rfl
  have h4 := step 3 (.int .i64 u4) (y := (u1, u2, u3, u4)) (by simp) h3 (List.getElem?_set_self (by simpa using hj)) (by omega) rfl
  simpa [List.set_set] using h4
theorem two_items0 (h : Two W0 w b rb bx t [] M v rv) : Calls Try.prog 17 #[.pointer (some ⟨b, 0, none⟩)] w fun e w' => ∃ A c, e = .returned (.slice A 0 c) ∧ Two W0 w' b rb bx t [] M v rv ∧ Below w.heap.size w w' :=
  (two_items h).mono fun _ _ ⟨vi, N, he, hp, _, hr, hT, hb⟩ => by
    obtain rfl := hp.eq_nil
    obtain ⟨A, c, rfl, _, _⟩ := row_open enc4_len hr
    exact ⟨A, c, he, hT, hb⟩
theorem two_ritems0 (h : Two W0 w b rb bx t L [] v rv) : Calls Try.prog 18 #[.pointer (some ⟨rb, 0, none⟩)] w fun e w' => ∃ A c, e = .returned (.slice A 0 c) ∧ Two W0 w' b rb bx t L [] v rv ∧ Below w.heap.size w w' :=
  (two_ritems h (List.Perm.refl []) List.Pairwise.nil).mono fun _ _ ⟨vi, he, hr, hT, hb⟩ => by
    obtain ⟨A, c, rfl, _, _⟩ := row_open enc4_len hr
    exact ⟨A, c, he, hT, hb⟩
theorem below_set4 {V V' : World} {B g o1 o2 o3 o4 : Nat} {u1 u2 u3 u4 : Value} (h : Below B V V') (hV : B ≤ V.heap.size) (hg : B ≤ g) :
    Below B V ((((V'.setCell ⟨g, o1, none⟩ u1).setCell ⟨g, o2, none⟩ u2).setCell ⟨g, o3, none⟩ u3).setCell ⟨g, o4, none⟩ u4) := by
  have hs : ∀ (X : World) (o : Nat) (u : Value), Fr (fun k => k = g) X (X.setCell ⟨g, o, none⟩ u) := fun X o u => Fr.setCell X ⟨g, o, none⟩ u
  have hf := (((hs V' o1 u1).trans (hs _ o2 u2)).trans (hs _ o3 u3)).trans (hs _ o4 u4)
  exact h.trans (hf.below (Nat.le_trans hV h.size) (fun k e => e ▸ hg))
end Go.Proofs.Ytcallnhkojgnmaa.Q
