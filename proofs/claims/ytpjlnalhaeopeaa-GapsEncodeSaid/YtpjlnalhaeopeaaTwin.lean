/- Twin and Left of the statements of gaps, walked by hand: a list in memory of its own, a number behind it. Conditions: the list lies readable, of at most 500. -/
import Derived.OwnWalk
import Derived.WalkKit
import Derived.Test.YtpjlnalhaeopeaaProg
import Derived.Test.YtpjlnalhaeopeaaWMore
namespace Go.Proofs.Ytpjlnalhaeopeaa.Twin
open Go.RowKit
open Go.Proofs.YtpjlnalhaeopeaaW.PrintWords Go.Proofs.YtpjlnalhaeopeaaW.PrintLast Go.Proofs.YtpjlnalhaeopeaaW.PrintMore
set_option linter.unusedVariables false
set_option linter.unusedSimpArgs false
theorem hnone {w : World} {A : Option Addr} {c : Nat} {l : List Int} (hr : ReadsInt w .i64 A l.length l) (hA : A = none → c = 0) : A = none → l.length = 0 ∧ c = 0 := by
  intro e
  refine ⟨?_, hA e⟩
  by_cases h : 0 < l.length
  · obtain ⟨ad, e', _⟩ := hr.2.2 h
    rw [e] at e'; cases e'
  · omega
theorem hcells {w w0 : World} {A : Option Addr} {l : List Int} (hr : ReadsInt w .i64 A l.length l) (hg : w.grownBy w0 none) : ∀ ad, A = some ad → ∀ j u, (nums .i64 l)[j]? = some u → w0.cell? (ad.add j) = some u := by
  intro ad e j u hu
  have hj : j < l.length := by
    have := (List.getElem?_eq_some_iff.1 hu).1
    simpa [nums] using this
  obtain ⟨ad', e', hc⟩ := hr.2.2 (by omega)
  rw [e] at e'; cases e'
  have hb : Below w.heap.size w w0 := (Below.refl _ _).grown hg (Nat.le_refl _) (by simp)
  rw [pw_cell_below hb (hc j hj)]
  simp [nums, hj] at hu
  rw [← hu]
  simp [List.getD_eq_getElem?_getD, hj]
theorem own_less {w : World} {base g : Nat} {l : List Int} (h : w.ownsRow base 3 1 (.slice (some ⟨g, 0, none⟩) (l ++ [-77]).length (l.length + 1)) (l ++ [-77]).length (nums .i64 (l ++ [-77]))) : w.ownsRow base 3 1 (.slice (some ⟨g, 0, none⟩) l.length (l.length + 1)) l.length (nums .i64 l) := by
  refine ⟨by simp [nums], ?_⟩
  rcases h.2 with ⟨e, _⟩ | ⟨g', cap, cur, e, h1, h2, h3, h4, h5, h6⟩
  · cases e
  · cases e
    refine .inr ⟨g, _, cur, rfl, h1, h2, by omega, h4, h5, ?_⟩
    have e6 : (cur.toList.take ((l ++ [-77]).length * 1)).take (l.length * 1) = (nums .i64 (l ++ [-77])).take (l.length * 1) := by rw [h6]
    rw [List.take_take, Nat.min_eq_left (by simp)] at e6
    rw [e6]
    simp [nums]
theorem Twin_calls (A : Option Addr) (c : Nat) (l : List Int) (w : World) (hr : ReadsInt w .i64 A l.length l) (hc : l.length ≤ c) (hA : A = none → c = 0) (hn : l.length ≤ 500) :
    Calls Try.prog 9 #[.slice A l.length c] w fun e w' => e = .returned (.slice (some ⟨w.heap.size, 0, none⟩) l.length (l.length + 1)) ∧ w'.ownsRow w.heap.size 3 1 (.slice (some ⟨w.heap.size, 0, none⟩) l.length (l.length + 1)) l.length (nums .i64 l) ∧ w'.ownsRow w.heap.size 3 1 (.slice (some ⟨w.heap.size, 0, none⟩) (l ++ [-77]).length (l.length + 1)) (l ++ [-77]).length (nums .i64 (l ++ [-77])) ∧ Below w.heap.size w w' := by
  obtain ⟨i0, hi, hz0, hz1, hz2⟩ := info_parts (P := Try.prog) (e := 3) (z := .int .i64 0) (size := 1) (bytes := 8) (by kernel_rfl)
  go_enter Try.func9, Try.ntmps9
  go_wp2_with (first
    | (at_make; refine wpList_make_own _ rfl _ _ 22 rfl w.heap.size 3 i0 (.int .i64 0) 1 Try.underlying22 hi hz0 hz1 .i64 .i64 _ (l.length + 1) rfl rfl (by first | rfl | omega) (by rw [hz2]; omega) (by unfold maxLen; omega) (Nat.le_refl _) ?_; intro w0 hown0 hgrow0)
    | (at_builtin; refine wpList_append_fits_any _ rfl (.tmp 6) (.tmp 7) 22 rfl w.heap.size 3 i0 1 Try.underlying22 hi hz1 w.heap.size 0 (l.length + 1) [] rfl hown0 A l.length c (nums .i64 l) rfl (by simp [nums]) (hnone hr hA) (hcells hr hgrow0) (ints_oneCell _ _) (by omega) ?_; intro w1 hown1 hgrow1; simp only [Nat.zero_add, List.nil_append] at hown1)
    | (at_builtin; refine wpList_append_fits _ rfl (.tmp 8) (.tmp 9) 22 rfl w.heap.size 3 i0 1 Try.underlying22 hi hz1 w.heap.size l.length (l.length + 1) (nums .i64 l) rfl ?_ ⟨w1.heap.size, 0, none⟩ 1 1 [.int .i64 (-77)] rfl rfl ?_ ?_ (by omega) ?_; rotate_left 3; intro w2 hown2 hgrow2)
    )
  all_goals try (exact hown1.kept (grown_of_below (below_alloc (Below.refl _ _) _) none) (.inr (by simp [Value.ownBlock])))
  all_goals try (intro u hu; rcases List.mem_singleton.1 hu with rfl; rfl)
  all_goals try (intro j u hu; match j, hu with | 0, hu => (cases Option.some.inj hu; rw [add_plain, World.cell?_alloc_at _ _ _ _ rfl]; rfl))
  all_goals go_wp2
  go_ret
  have ho2 : w2.ownsRow w.heap.size 3 1 (.slice (some ⟨w.heap.size, 0, none⟩) (l ++ [-77]).length (l.length + 1)) (l ++ [-77]).length (nums .i64 (l ++ [-77])) := by simpa [nums] using hown2
  refine ⟨rfl, own_less ho2, ho2, ?_⟩
  · have b0 : Below w.heap.size w w0 := (Below.refl _ _).grown hgrow0 (Nat.le_refl _) (by simp)
    have b1 : Below w.heap.size w w1 := b0.grown hgrow1 b0.size (by intro k e; cases e; exact Nat.le_refl _)
    have b2 := below_alloc b1 (Obj.cells #[Value.int IntKind.i64 (-77)] 3)
    exact b2.grown hgrow2 b2.size (by intro k e; cases e; exact Nat.le_refl _)
end Go.Proofs.Ytpjlnalhaeopeaa.Twin
