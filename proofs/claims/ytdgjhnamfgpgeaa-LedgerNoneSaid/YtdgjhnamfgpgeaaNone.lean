/- LedgerNone, walked: a ledger that is none answers so, and has nothing. Conditions: the numbers are of their kind. -/
import Derived.Test.YtdgjhnamfgpgeaaAdds
namespace Go.Proofs.Ytdgjhnamfgpgeaa.Led
open Go.RowKit Go.Maps
open Go.Proofs.Ytdgjhnamfgpgeaa.Ma
set_option linter.unusedVariables false
set_option linter.unusedSimpArgs false
def IsNone (w : World) (p : Option Addr) : Prop := p = none ∨ ∃ b, p = some ⟨b, 0, none⟩ ∧ w.cell? ⟨b, 2, none⟩ = some (.map none)
theorem none_true (p : Option Addr) (w : World) (h : IsNone w p) : Calls Try.prog 20 #[.pointer p] w fun e w' => e = .returned (.bool true) ∧ w = w' := by
  rcases h with rfl | ⟨b, rfl, c⟩
  · exact none_nil w
  · exact none_empty b w c
theorem reserve_none (p : Option Addr) (id need : Int) (w : World) (h : IsNone w p) : Calls Try.prog 12 #[.pointer p, .int .i64 id, .int .u64 need] w fun e w' => e = .returned (.int .i64 1) ∧ w = w' := by
  go_enter Try.func12, Try.ntmps12
  go_wp2_with (go_at_call 20; refine (none_true _ _ h).mono ?_; rintro e w' ⟨rfl, rfl⟩)
  go_ret
  exact ⟨rfl, rfl⟩
theorem release_none (p : Option Addr) (id : Int) (w : World) (h : IsNone w p) : Calls Try.prog 10 #[.pointer p, .int .i64 id] w fun e w' => e = .returned (.int .i64 1) ∧ w = w' := by
  go_enter Try.func10, Try.ntmps10
  go_wp2_with (go_at_call 20; refine (none_true _ _ h).mono ?_; rintro e w' ⟨rfl, rfl⟩)
  go_ret
  exact ⟨rfl, rfl⟩
theorem held_none (p : Option Addr) (id : Int) (w : World) (h : IsNone w p) : Calls Try.prog 15 #[.pointer p, .int .i64 id] w fun e w' => e = .returned (.int .u64 0) ∧ w = w' := by
  go_enter Try.func15, Try.ntmps15
  go_wp2_with (go_at_call 20; refine (none_true _ _ h).mono ?_; rintro e w' ⟨rfl, rfl⟩)
  go_ret
  exact ⟨rfl, rfl⟩
theorem used_none (p : Option Addr) (w : World) (h : IsNone w p) : Calls Try.prog 17 #[.pointer p] w fun e w' => e = .returned (.int .u64 0) ∧ w = w' := by
  go_enter Try.func17, Try.ntmps17
  go_wp2_with (go_at_call 20; refine (none_true _ _ h).mono ?_; rintro e w' ⟨rfl, rfl⟩)
  go_ret
  exact ⟨rfl, rfl⟩
theorem idsn_none (p : Option Addr) (w : World) (h : IsNone w p) : Calls Try.prog 14 #[.pointer p] w fun e w' => e = .returned (.slice none 0 0) ∧ w = w' := by
  rcases h with rfl | ⟨b, rfl, c⟩
  · exact ids_nil w
  · exact ids_none b w c
theorem fits_none (p : Option Addr) (need : Int) (w : World) (h : IsNone w p) : Calls Try.prog 19 #[.pointer p, .int .u64 need] w fun e w' => ∃ n, e = .returned (.bool false) ∧ w.drewN n = w' := by
  go_enter Try.func19, Try.ntmps19
  go_wp2
  go_quiet ((go_at_call 20; exact quiet_eq (none_true _ _ h)))
  go_wp2
  go_ret
  exact ⟨_, rfl, rfl⟩
theorem isNone_below {w w' : World} {p : Option Addr} {B : Nat} (h : IsNone w p) (hp : ∀ a, p = some a → a.block < B) (hb : Below B w w') : IsNone w' p := by
  rcases h with rfl | ⟨b, rfl, c⟩
  · exact .inl rfl
  · exact .inr ⟨b, rfl, (hb.cell (p := ⟨b, 2, none⟩) (by have := hp _ rfl; exact this)).trans c⟩
theorem bdrew {B : Nat} {a w : World} (n : Nat) (h : Below B a w) : Below B a (w.drewN n) := ⟨h.os, h.tape, h.output, h.size, h.block⟩
theorem none_at_all (id need : Int) (back : Bool) (w : World) : Calls Try.prog 4 #[.agg #[.int .i64 id, .int .u64 need, .bool back]] w fun e w' => e = .returned (.bool true) ∧ Below w.heap.size w w' := by
  go_enter Try.func4, Try.ntmps4
  go_wp2
  obtain ⟨W, hW, g0, g1, g2, hsz, hB⟩ := alloc3 w (.cells #[.int .i64 id, .int .u64 need, .bool back] 33) (.cells #[.int .u64 0, .int .u64 0, .map none] 54) (.cells #[.pointer none, .pointer (some ⟨w.heap.size + 1, 0, none⟩)] 25)
  rw [hW]
  clear hW
  have HB := Lib.hid hB
  have HS := Lib.hid hsz
  have G := Lib.hid (And.intro g0 (And.intro g1 g2))
  clear hB hsz g0 g1 g2
  go_loopw [9] (fun i wr => ∃ k : Nat, k ≤ 2 ∧ i = .int .i64 k ∧ Below W.heap.size W wr) (fun i _ => 2 - (intOf i).toNat)
  case atStart => exact ⟨0, by omega, rfl, Below.refl _ _⟩
  case round =>
    obtain ⟨k, hk, rfl, hb⟩ := hrel
    have hs := HS.out
    have q0 : wr.heap[w.heap.size]? = some (.cells #[.int .i64 id, .int .u64 need, .bool back] 33 (0, 0)) := (hb.block _ (by omega)).trans G.out.1
    have q1 : wr.heap[w.heap.size + 1]? = some (.cells #[.int .u64 0, .int .u64 0, .map none] 54 (0, 0)) := (hb.block _ (by omega)).trans G.out.2.1
    have q2 : wr.heap[w.heap.size + 1 + 1]? = some (.cells #[.pointer none, .pointer (some ⟨w.heap.size + 1, 0, none⟩)] 25 (0, 0)) := (hb.block _ (by omega)).trans G.out.2.2
    have c0 : wr.cell? ⟨w.heap.size, 0, none⟩ = some (.int .i64 id) := cell_of_heap q0 rfl
    have c1 : wr.cell? ⟨w.heap.size, 1, none⟩ = some (.int .u64 need) := cell_of_heap q0 rfl
    have c2 : wr.cell? ⟨w.heap.size + 1, 2, none⟩ = some (.map none) := cell_of_heap q1 rfl
    have d0 : wr.cell? ⟨w.heap.size + 1 + 1, 0, none⟩ = some (.pointer none) := cell_of_heap q2 rfl
    have d1 : wr.cell? ⟨w.heap.size + 1 + 1, 1, none⟩ = some (.pointer (some ⟨w.heap.size + 1, 0, none⟩)) := cell_of_heap q2 rfl
    have hbx := Lib.hid hb
    clear hb hs q0 q1 q2
    match k, hk with
    | 0, _ =>
      have hn : IsNone wr none := .inl rfl
      go_wp2_with (first | (go_at_call 12; refine (reserve_none _ _ _ _ hn).mono ?_; rintro e w' ⟨rfl, rfl⟩) | (go_at_call 10; refine (release_none _ _ _ hn).mono ?_; rintro e w' ⟨rfl, rfl⟩) | (go_at_call 15; refine (held_none _ _ _ hn).mono ?_; rintro e w' ⟨rfl, rfl⟩) | (go_at_call 17; refine (used_none _ _ hn).mono ?_; rintro e w' ⟨rfl, rfl⟩) | (go_at_call 19; refine (fits_none _ _ _ hn).mono ?_; rintro e w' ⟨n, rfl, rfl⟩) | (go_at_call 14; refine (idsn_none _ _ (.inl rfl)).mono ?_; rintro e w' ⟨rfl, rfl⟩))
      go_roundw
      case rel => exact ⟨1, by omega, rfl, bdrew _ hbx.out⟩
      case measure => simp [intOf]
    | 1, _ =>
      have hn : IsNone wr (some ⟨w.heap.size + 1, 0, none⟩) := .inr ⟨_, rfl, c2⟩
      have hn2 : ∀ n, IsNone (wr.drewN n) (some ⟨w.heap.size + 1, 0, none⟩) := fun n => .inr ⟨_, rfl, c2⟩
      go_wp2_with (first | (go_at_call 12; refine (reserve_none _ _ _ _ hn).mono ?_; rintro e w' ⟨rfl, rfl⟩) | (go_at_call 10; refine (release_none _ _ _ hn).mono ?_; rintro e w' ⟨rfl, rfl⟩) | (go_at_call 15; refine (held_none _ _ _ hn).mono ?_; rintro e w' ⟨rfl, rfl⟩) | (go_at_call 17; refine (used_none _ _ hn).mono ?_; rintro e w' ⟨rfl, rfl⟩) | (go_at_call 19; refine (fits_none _ _ _ hn).mono ?_; rintro e w' ⟨n, rfl, rfl⟩) | (go_at_call 14; refine (idsn_none _ _ (hn2 _)).mono ?_; rintro e w' ⟨rfl, rfl⟩))
      go_roundw
      case rel => exact ⟨2, by omega, rfl, bdrew _ hbx.out⟩
      case measure => simp [intOf]
    | 2, _ =>
      go_wp2_with (go_at_call 7; refine (adds_calls _).mono ?_; rintro e w' ⟨rfl, ha⟩)
      go_ret
      refine ⟨rfl, ?_⟩
      have h1 := HB.out
      have h2 := HS.out
      have h3 := hbx.out
      exact h1.trans ((h3.mono (by omega)).trans (ha.mono (by have := h3.size; omega)))
end Go.Proofs.Ytdgjhnamfgpgeaa.Led
