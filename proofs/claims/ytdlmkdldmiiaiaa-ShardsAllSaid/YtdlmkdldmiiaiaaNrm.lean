/- Whether edges may be: within, may, the test of all. Conditions: those that each theorem names. -/
import Derived.Test.YtdlmkdldmiiaiaaCpt
namespace Go.Proofs.Ytdlmkdldmiiaiaa.D
open Go.RowKit Go.Sort Go.Shelf
open Go.Proofs.Ytdlmkdldmiiaiaa.Ma
set_option linter.unusedVariables false
set_option linter.unusedSimpArgs false
theorem within_at (n v : Int) (w : World) : Calls Try.prog 53 #[.int .i64 n, .int .i64 v] w fun e w' => e = .returned (.bool (inR n v)) ∧ w = w' := by
  unfold inR
  by_cases h1 : 0 ≤ v
  · by_cases h2 : v < n
    · rw [show decide (0 ≤ v ∧ v < n) = true by simp [h1, h2]]
      go_enter Try.func53, Try.ntmps53
      go_wp2
      go_ret
      exact ⟨rfl, rfl⟩
    · rw [show decide (0 ≤ v ∧ v < n) = false by simp [h2]]
      go_enter Try.func53, Try.ntmps53
      go_wp2
      go_ret
      exact ⟨rfl, rfl⟩
  · rw [show decide (0 ≤ v ∧ v < n) = false by simp [h1]]
    have h1' : v < 0 := by omega
    go_enter Try.func53, Try.ntmps53
    go_wp2
    go_ret
    exact ⟨rfl, rfl⟩
theorem may_at (n : Int) (w : World) : Calls Try.prog 54 #[.int .i64 n] w fun e w' => e = .returned (.bool (mayR n)) ∧ w = w' := by
  unfold mayR
  by_cases h1 : 1 ≤ n
  · by_cases h2 : n ≤ 256
    · rw [show decide (1 ≤ n ∧ n ≤ 256) = true by simp [h1, h2]]
      go_enter Try.func54, Try.ntmps54
      go_wp2
      go_ret
      exact ⟨rfl, rfl⟩
    · rw [show decide (1 ≤ n ∧ n ≤ 256) = false by simp [h2]]
      have h2' : 256 < n := by omega
      go_enter Try.func54, Try.ntmps54
      go_wp2
      go_ret
      exact ⟨rfl, rfl⟩
  · rw [show decide (1 ≤ n ∧ n ≤ 256) = false by simp [h1]]
    have h1' : n < 1 := by omega
    go_enter Try.func54, Try.ntmps54
    go_wp2
    go_ret
    exact ⟨rfl, rfl⟩
set_option maxHeartbeats 1000000 in
theorem bad_any (x1 x2 n : Int) (b : Nat) (w : World) (hc : w.cell? ⟨b, 0, none⟩ = some (.int .i64 n)) (hb : b < w.heap.size) :
    Calls Try.prog 52 #[.agg #[.int .i64 x1, .int .i64 x2], .pointer (some ⟨b, 0, none⟩)] w fun e w' => e = .returned (.bool (badE n (x1, x2))) ∧ Below w.heap.size w w' := by
  obtain ⟨W, hW, gx, hbl, hsz, hg⟩ := boxed2 w x1 x2 41
  have hcW := (hbl.cell (p := ⟨b, 0, none⟩) hb).trans hc
  have a0 := cell_of_heap (i := 0) gx rfl
  have a1 := cell_of_heap (i := 1) gx rfl
  have HBL := Lib.hid hbl
  unfold badE
  dsimp only
  clear hc hb gx hbl hsz hg
  cases e3 : x1 == x2 <;> cases hp1 : inR n x1 <;> cases hp2 : inR n x2
  all_goals
    go_enter Try.func52, Try.ntmps52
    go_wp2_with (go_at_call 53; refine (within_at _ _ _).mono ?_; rintro e w1 ⟨rfl, rfl⟩)
    go_ret
    exact ⟨rfl, HBL.out⟩
theorem con_nil (A : Option Addr) (c : Nat) (fv : Value) (w : World) : Calls Try.prog 55 #[.slice A 0 c, fv] w fun e w' => e = .returned (.bool false) ∧ w = w' := by
  have h30 : ∀ W, Calls Try.prog 77 #[.slice A 0 c, fv] W fun e w' => e = .returned (.int .i64 (-1)) ∧ W = w' := by
    intro W
    go_enter Try.func77, Try.ntmps77
    go_wp2
    go_loop [5, 8] (fun _ i => i = .int .i64 0) (fun _ i => 0)
    case atStart => rfl
    case round =>
      subst hrel
      go_wp2
      go_ret
      exact ⟨rfl, rfl⟩
  have H30 := Lib.hid h30
  clear h30
  go_enter Try.func55, Try.ntmps55
  go_wp2_with (go_at_call 77; refine (H30.out _).mono ?_; rintro e w1 ⟨rfl, rfl⟩)
  go_ret
  exact ⟨rfl, rfl⟩
theorem enters20 : ∀ args w, (callFunc 52 args).run Try.prog w = .ok (.enter 52 args) w := enters_of Try.func52 (by kernel_rfl) rfl
theorem con_at (A : Option Addr) (c b : Nat) (n : Int) (L : List Ed) (w : World) (hL : Lies enc2 2 w A L) (hlen : L.length ≤ 1000000) (hc : w.cell? ⟨b, 0, none⟩ = some (.int .i64 n)) (hb : b < w.heap.size) :
    Calls Try.prog 55 #[.slice A L.length c, .func (.func 52) #[] #[.pointer (some ⟨b, 0, none⟩)]] w fun e w' => e = .returned (.bool (L.any (badE n))) ∧ Below w.heap.size w w' := by
  cases L with
  | nil => exact (con_nil A c _ w).mono fun _ _ ⟨he, hw⟩ => ⟨he, hw ▸ Below.refl _ _⟩
  | cons y r =>
    obtain ⟨g, o, rfl, hg, _⟩ := hL 0 y rfl
    have hp : PredBelow Try.prog 52 #[.pointer (some ⟨b, 0, none⟩)] (fun x : Ed => .agg (enc2 x).toArray) (badE n) w := fun W x hW => by
      obtain ⟨x1, x2⟩ := x
      exact (bad_any x1 x2 n b W ((hW.cell (p := ⟨b, 0, none⟩) hb).trans hc) (Nat.lt_of_lt_of_le hb hW.size)).mono fun e w' ⟨he, hb'⟩ => ⟨he, hW.trans (hb'.mono hW.size)⟩
    have := AnyQ.slices_ContainsFunc Try.conQ 2 Try.isAgg41 Try.sizeOf41 enc2 enc2_len (badE n) 52 #[.pointer (some ⟨b, 0, none⟩)] enters20 g o (y :: r).length c (y :: r) w hp (Nat.le_refl _) (by omega) hg
      (fun j hj i v hv => by
        obtain ⟨b', o', e', _, hcc⟩ := hL j (y :: r)[j]! (by rw [List.getElem!_eq_getElem?_getD, List.getElem?_eq_getElem hj]; rfl)
        cases e'
        exact hcc i v hv)
    rw [List.take_length] at this
    exact this
end Go.Proofs.Ytdlmkdldmiiaiaa.D
