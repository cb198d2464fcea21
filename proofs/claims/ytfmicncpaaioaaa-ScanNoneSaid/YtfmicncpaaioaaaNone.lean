/- ScanNone, walked: a scan that is none answers so, and has nobody. Conditions: the number is of its kind. -/
import Derived.Test.YtfmicncpaaioaaaStp
namespace Go.Proofs.Ytfmicncpaaioaaa.Sc
open Go.RowKit Go.Maps Go.Sort Go.Shelf
open Go.Proofs.Ytfmicncpaaioaaa.Ma
set_option linter.unusedVariables false
set_option linter.unusedSimpArgs false
theorem alloc2 (w : World) (A B : Obj) : ∃ W, (w.alloc A).alloc B = W ∧ W.heap[w.heap.size]? = some A ∧ W.heap[w.heap.size + 1]? = some B ∧ W.heap.size = w.heap.size + 2 ∧ Below w.heap.size w W := by
  have s1 : (w.alloc A).heap.size = w.heap.size + 1 := by simp
  refine ⟨_, rfl, ?_, ?_, by simp, ((Below.refl _ _).alloc (Nat.le_refl _) _).alloc (by simp) _⟩
  · rw [Below.heap_alloc _ _ _ (by omega)]
    exact heap_alloc_new w A
  · have := heap_alloc_new (w.alloc A) B
    rwa [s1] at this
theorem none_at_all (id : Int) (w : World) : Calls Try.prog 4 #[.int .i64 id] w fun e w' => e = .returned (.bool true) ∧ Below w.heap.size w w' := by
  go_enter Try.func4, Try.ntmps4
  go_wp2
  obtain ⟨W, hW, g1, g2, hsz, hB⟩ := alloc2 w (.cells #[.int .i64 0, .int .i64 0, .map none] 47) (.cells #[.pointer none, .pointer (some ⟨w.heap.size, 0, none⟩)] 24)
  rw [hW]
  clear hW
  have HB := Lib.hid hB
  have HS := Lib.hid hsz
  have G := Lib.hid (And.intro g1 g2)
  clear hB hsz g1 g2
  go_loopw [11] (fun i wr => ∃ k : Nat, k ≤ 2 ∧ i = .int .i64 k ∧ Below W.heap.size W wr) (fun i _ => 2 - (intOf i).toNat)
  case atStart => exact ⟨0, by omega, rfl, Below.refl _ _⟩
  case round =>
    obtain ⟨k, hk, rfl, hb⟩ := hrel
    have hs := HS.out
    have q1 : wr.heap[w.heap.size]? = some (.cells #[.int .i64 0, .int .i64 0, .map none] 47 (0, 0)) := (hb.block _ (by omega)).trans G.out.1
    have q2 : wr.heap[w.heap.size + 1]? = some (.cells #[.pointer none, .pointer (some ⟨w.heap.size, 0, none⟩)] 24 (0, 0)) := (hb.block _ (by omega)).trans G.out.2
    have c2 : wr.cell? ⟨w.heap.size, 0, none⟩ = some (.int .i64 0) := cell_of_heap q1 rfl
    have d0 : wr.cell? ⟨w.heap.size + 1, 0, none⟩ = some (.pointer none) := cell_of_heap q2 rfl
    have d1 : wr.cell? ⟨w.heap.size + 1, 1, none⟩ = some (.pointer (some ⟨w.heap.size, 0, none⟩)) := cell_of_heap q2 rfl
    have hbx := Lib.hid hb
    clear hb hs q1 q2
    match k, hk with
    | 0, _ =>
      have hn : IsNone wr none := .inl rfl
      go_wp2_with (first | (go_at_call 11; refine (attach_none _ _ _ hn).mono ?_; rintro e w' ⟨rfl, rfl⟩) | (go_at_call 13; refine (detach_none _ _ _ hn).mono ?_; rintro e w' ⟨rfl, rfl⟩) | (go_at_call 15; refine (serve_none _ _ _ hn).mono ?_; rintro e w' ⟨rfl, rfl⟩) | (go_at_call 17; refine (adv_none _ _ hn).mono ?_; rintro e w' ⟨rfl, rfl⟩) | (go_at_call 21; refine (at_none _ _ hn).mono ?_; rintro e w' ⟨rfl, rfl⟩) | (go_at_call 19; refine (attached_none _ _ hn).mono ?_; rintro e w' ⟨rfl, rfl⟩) | (go_at_call 20; refine (waiting_none _ _ hn).mono ?_; rintro e w' ⟨rfl, rfl⟩))
      go_roundw
      case rel => exact ⟨1, by omega, rfl, hbx.out⟩
      case measure => simp [intOf]
    | 1, _ =>
      have hn : IsNone wr (some ⟨w.heap.size, 0, none⟩) := .inr ⟨_, rfl, c2⟩
      go_wp2_with (first | (go_at_call 11; refine (attach_none _ _ _ hn).mono ?_; rintro e w' ⟨rfl, rfl⟩) | (go_at_call 13; refine (detach_none _ _ _ hn).mono ?_; rintro e w' ⟨rfl, rfl⟩) | (go_at_call 15; refine (serve_none _ _ _ hn).mono ?_; rintro e w' ⟨rfl, rfl⟩) | (go_at_call 17; refine (adv_none _ _ hn).mono ?_; rintro e w' ⟨rfl, rfl⟩) | (go_at_call 21; refine (at_none _ _ hn).mono ?_; rintro e w' ⟨rfl, rfl⟩) | (go_at_call 19; refine (attached_none _ _ hn).mono ?_; rintro e w' ⟨rfl, rfl⟩) | (go_at_call 20; refine (waiting_none _ _ hn).mono ?_; rintro e w' ⟨rfl, rfl⟩))
      go_roundw
      case rel => exact ⟨2, by omega, rfl, hbx.out⟩
      case measure => simp [intOf]
    | 2, _ =>
      go_wp2_with (go_at_call 8; refine (rides_calls _).mono ?_; rintro e w' ⟨rfl, ha⟩)
      go_ret
      refine ⟨rfl, ?_⟩
      have h1 := HB.out
      have h2 := HS.out
      have h3 := hbx.out
      exact h1.trans ((h3.mono (by omega)).trans (ha.mono (by have := h3.size; omega)))
end Go.Proofs.Ytfmicncpaaioaaa.Sc
