/- The queue's order: what sorting a row by it leaves. Conditions: those that each theorem names. -/
import Derived.Test.YtcallnhkojgnmaaQ
namespace Go.Proofs.Ytcallnhkojgnmaa.Q
open Go.RowKit Go.Sort Go.Shelf
open Go.Proofs.Ytcallnhkojgnmaa.Ma
set_option linter.unusedVariables false
set_option linter.unusedSimpArgs false
/-- x comes ahead of y. -/
def Ahead (x y : It) : Prop := rankZ y < rankZ x ∨ (rankZ x = rankZ y ∧ x.1 < y.1)
theorem cmp_neg (x y : Int) : Lib.compareInt x y < 0 ↔ x < y := by
  unfold Lib.compareInt
  by_cases h1 : x < y
  · simp [h1]
  · by_cases h2 : x > y <;> simp [h1, h2]
theorem cmp_zero (x y : Int) : Lib.compareInt x y = 0 ↔ x = y := by
  unfold Lib.compareInt
  by_cases h1 : x < y
  · simp [h1]; omega
  · by_cases h2 : x > y
    · simp [h1, h2]; omega
    · simp [h1, h2]; omega
theorem cf_neg (x y : It) : cf x y < 0 ↔ Ahead x y := by
  unfold cf orZ Ahead
  by_cases h : Lib.compareInt (rankZ y) (rankZ x) = 0
  · rw [if_pos h, cmp_neg]
    have := (cmp_zero _ _).1 h
    omega
  · rw [if_neg h, cmp_neg]
    have := mt (cmp_zero _ _).2 h
    omega
theorem lt_true (x y : It) : ltOf cf x y = true ↔ Ahead x y := by unfold ltOf; rw [decide_eq_true_eq, cf_neg]
theorem lt_false (x y : It) : ltOf cf x y = false ↔ ¬ Ahead x y := by rw [← lt_true]; simp
theorem swo : SWO (ltOf cf) where
  irrefl x := by rw [lt_false]; unfold Ahead; omega
  trans x y z h1 h2 := by rw [lt_true] at *; unfold Ahead at *; omega
  ntrans x y z h1 h2 := by rw [lt_false] at *; unfold Ahead at *; omega
theorem cmpLays (blk off size : Nat) (w : World) : CmpLays Try.prog 29 #[] enc4 4 cf blk off size w := fun m os dk hs x y => compare_any x y _
theorem enters29 : ∀ args w, (callFunc 29 args).run Try.prog w = .ok (.enter 29 args) w := enters_of Try.func29 (by kernel_rfl) rfl
abbrev Order (M : List It) : Prop := M.Pairwise fun x y => ¬ Ahead y x
theorem sort_some (B g c : Nat) (L : List It) (w : World) (h : w.ownsRow B 31 4 (.slice (some ⟨g, 0, none⟩) L.length c) L.length (cellsK enc4 L)) (hlen : L.length ≤ 1000000) :
    Calls Try.prog 28 #[.slice (some ⟨g, 0, none⟩) L.length c, .func (.func 29) #[] #[]] w fun e w' => e = .returned (.tuple #[]) ∧ ∃ M : List It, M.Perm L ∧ Order M ∧ w'.ownsRow B 31 4 (.slice (some ⟨g, 0, none⟩) L.length c) L.length (cellsK enc4 M) ∧ Fr (fun k => k = g) w w' := by
  have hg : g < w.heap.size := by
    rcases h.2 with ⟨e, _⟩ | ⟨g', cap, cur, e, _, hh, _⟩
    · cases e
    · cases e; exact lt_of_heap hh
  have hcon := AnyQ.slices_SortFunc Try.sortQ 4 Try.isAgg31 Try.sizeOf31 enc4 enc4_len enc4_one cf swo 29 #[] g 0 c L.toArray w enters29 (cmpLays g 0 _ w) (row_holds enc4_len h) hg (by simp; omega)
  change Calls Try.prog 28 _ _ _ at hcon
  have e2 : L.toArray.size = L.length := by simp
  rw [e2] at hcon
  refine hcon.mono ?_
  rintro e w' ⟨he, d', n, os, hp, hs, rfl⟩
  have hsz : d'.size = L.length := hp.1
  obtain ⟨r1, r2⟩ := row_sorted (n := n) (os := os) enc4_len h hsz
  refine ⟨he, d'.toList, ?_, ?_, r1, r2⟩
  · have := hp.2.2
    have e3 : d'.toList.take L.length = d'.toList := List.take_of_length_le (by simp [hsz])
    simp [hsz, e3] at this
    exact this
  · refine List.pairwise_iff_getElem.2 fun i j hi hj hij => ?_
    have hi' : i < d'.size := by simpa using hi
    have hj' : j < d'.size := by simpa using hj
    have := hs i j (Nat.zero_le _) hij (by omega)
    rw [lt_false] at this
    simpa [hi', hj'] using this
theorem sort_nil (cap : Nat) (fv : Value) (w : World) : Calls Try.prog 28 #[.slice none 0 cap, fv] w fun e w' => e = .returned (.tuple #[]) ∧ w = w' :=
  (AnyF.slices_SortFunc_none Try.sortQ none cap fv w).mono fun _ _ ⟨he, hw⟩ => ⟨he, hw.symm⟩
/-- A list in order is one alone, where no number stands twice. -/
theorem order_unique {L M N : List It} (hM : M.Perm L) (hN : N.Perm L) (oM : Order M) (oN : Order N) (hd : (L.map Prod.fst).Nodup) : M = N := by
  have hMN : M.Perm N := hM.trans hN.symm
  refine List.Perm.eq_of_pairwise (le := fun x y => ¬ Ahead y x) ?_ oM oN hMN
  intro a b ha hb h1 h2
  have ha' : a ∈ L := hM.mem_iff.1 ha
  have hb' : b ∈ L := hN.mem_iff.1 hb
  have he : a.1 = b.1 := by unfold Ahead at h1 h2; omega
  obtain ⟨i, hi⟩ := List.getElem?_of_mem ha'
  obtain ⟨j, hj⟩ := List.getElem?_of_mem hb'
  have hij : i = j := by
    have h3 := List.getElem?_eq_some_iff.1 hi
    have h4 := List.getElem?_eq_some_iff.1 hj
    have hp := List.pairwise_iff_getElem.1 hd
    rcases Nat.lt_trichotomy i j with hl | hl | hl
    · have := hp i j (by simpa using h3.1) (by simpa using h4.1) hl
      simp only [List.getElem_map, h3.2, h4.2] at this
      exact absurd he this
    · exact hl
    · have := hp j i (by simpa using h4.1) (by simpa using h3.1) hl
      simp only [List.getElem_map, h3.2, h4.2] at this
      exact absurd he.symm this
  subst hij
  rw [hi] at hj
  exact Option.some.inj hj
end Go.Proofs.Ytcallnhkojgnmaa.Q
