/- QueueNone, walked. Conditions: the arguments lie as they may. -/
import Derived.Test.YtcallnhkojgnmaaLw
namespace Go.Proofs.Ytcallnhkojgnmaa.Q
open Go.RowKit Go.Sort Go.Shelf
open Go.Proofs.Ytcallnhkojgnmaa.Ma
set_option linter.unusedVariables false
set_option linter.unusedSimpArgs false
theorem ne31 (w : World) : (binOp .neq 31 (.agg #[.int .i64 0, .int .i64 0, .int .i64 0, .int .i64 0]) (.agg #[.int .i64 0, .int .i64 0, .int .i64 0, .int .i64 0])).run Try.prog w = .ok (.bool false) w := by kernel_rfl
def NBx (w : World) (bx : Nat) (x1 x2 x3 x4 : Int) (p : Option Addr) : Prop := bx < w.heap.size ∧ w.cell? ⟨bx, 0, none⟩ = some (.int .i64 x1) ∧ w.cell? ⟨bx, 1, none⟩ = some (.int .i64 x2) ∧ w.cell? ⟨bx, 2, none⟩ = some (.int .i64 x3) ∧ w.cell? ⟨bx, 3, none⟩ = some (.int .i64 x4) ∧ IsNone w p
theorem NBx.below {w w' : World} {bx : Nat} {x1 x2 x3 x4 : Int} {p : Option Addr} (h : NBx w bx x1 x2 x3 x4 p) (hb : Below w.heap.size w w') : NBx w' bx x1 x2 x3 x4 p := by
  obtain ⟨h0, h1, h2, h3, h4, h5⟩ := h
  obtain ⟨k1, k2, k3, k4⟩ := four_keep hb h0 ⟨h1, h2, h3, h4⟩
  exact ⟨Nat.lt_of_lt_of_le h0 hb.size, k1, k2, k3, k4, h5.below hb⟩
set_option maxHeartbeats 2000000 in
theorem nones_at (x1 x2 x3 x4 : Int) (w : World) : Calls Try.prog 5 #[.agg #[.int .i64 x1, .int .i64 x2, .int .i64 x3, .int .i64 x4]] w fun e w' => e = .returned (.bool true) ∧ Below w.heap.size w w' := by
  go_enter Try.func5, Try.ntmps5
  go_wp2
  obtain ⟨W, hW, g1, g2, g3, hsz, hB⟩ := alloc3 w (.cells #[.int .i64 x1, .int .i64 x2, .int .i64 x3, .int .i64 x4] 31) (.cells #[.bool false, .slice none 0 0] 51) (.cells #[.pointer none, .pointer (some ⟨w.heap.size + 1, 0, none⟩)] 24)
  rw [hW]
  clear hW
  have HB := Lib.hid hB
  have HS := Lib.hid hsz
  have G := Lib.hid (And.intro g1 (And.intro g2 g3))
  clear hB hsz g1 g2 g3
  go_loopw [4, 5, 6, 11] (fun _ _ _ i wr => ∃ k : Nat, k ≤ 2 ∧ i = .int .i64 k ∧ Below W.heap.size W wr) (fun _ _ _ i _ => 2 - (intOf i).toNat)
  case atStart => exact ⟨0, by omega, rfl, Below.refl _ _⟩
  case round =>
    obtain ⟨k, hk, rfl, hb⟩ := hrel
    have hs := HS.out
    have hsr := hb.size
    have q1 := (hb.block _ (by omega)).trans G.out.1
    have q2 := (hb.block _ (by omega)).trans G.out.2.1
    have q3 := (hb.block _ (by omega)).trans G.out.2.2
    have d0 : wr.cell? ⟨w.heap.size + 1 + 1, 0, none⟩ = some (.pointer none) := cell_of_heap q3 rfl
    have d1 : wr.cell? ⟨w.heap.size + 1 + 1, 1, none⟩ = some (.pointer (some ⟨w.heap.size + 1, 0, none⟩)) := cell_of_heap q3 rfl
    have hq : k < 2 → NBx wr w.heap.size x1 x2 x3 x4 (if k = 0 then none else some ⟨w.heap.size + 1, 0, none⟩) := fun _ => by
      refine ⟨by omega, cell_of_heap q1 rfl, cell_of_heap q1 rfl, cell_of_heap q1 rfl, cell_of_heap q1 rfl, ?_⟩
      by_cases h0 : k = 0
      · rw [if_pos h0]; exact .inl rfl
      · rw [if_neg h0]; exact .inr ⟨_, rfl, by omega, cell_of_heap q2 rfl⟩
    have HQ := Lib.hid hq
    have hbx := Lib.hid hb
    clear hb hs hsr q1 q2 q3 hq
    have hn31 := ne31
    match k, hk with
    | 0, _ =>
      have n0 := HQ.out (by omega)
      rw [if_pos rfl] at n0
      have N0 := Lib.hid n0
      clear n0
      go_wp2_with fail
      refine (head_none _ _ N0.out.2.2.2.2.2).mono ?_
      rintro e w1 ⟨rfl, hb1⟩
      have N9 := Lib.hid (N0.out.below hb1)
      obtain ⟨l9, a9, b9, c9, d9, _⟩ := N9.out
      go_wp2_with fail
      obtain ⟨W1, hW1, gh1, hbW1, hsW1⟩ := boxed4 w1 0 0 0 0 31
      have B1 := Lib.hid (hb1.trans (hbW1.mono hb1.size))
      have N1 := Lib.hid (N0.out.below B1.out)
      have GH1 := Lib.hid gh1
      have lh1 : w1.heap.size < W1.heap.size := by omega
      clear hb1 hbW1 gh1 hsW1 a9 b9 c9 d9
      rw [hW1]
      clear hW1
      refine (push_none _ _ _ _ _ _ N1.out.2.2.2.2.2).mono ?_
      rintro e w2 ⟨rfl, hb2⟩
      have B2 := Lib.hid (B1.out.trans (hb2.mono B1.out.size))
      have N2 := Lib.hid (N1.out.below hb2)
      have GH2 := Lib.hid ((hb2.block _ lh1).trans GH1.out)
      have lh2 := lt_of_heap GH2.out
      obtain ⟨l2, b0, _, _, _, _⟩ := N2.out
      clear hb2
      go_wp2_with fail
      refine (rem_none _ _ _ N2.out.2.2.2.2.2).mono ?_
      rintro e w3 ⟨rfl, hb3⟩
      have B3 := Lib.hid (B2.out.trans (hb3.mono B2.out.size))
      have N3 := Lib.hid (N2.out.below hb3)
      have GH3 := Lib.hid ((hb3.block _ lh2).trans GH2.out)
      have lh3 := lt_of_heap GH3.out
      clear hb3
      go_wp2_with fail
      refine (age_none _ _ N3.out.2.2.2.2.2).mono ?_
      rintro e w4 ⟨rfl, hb4⟩
      have B4 := Lib.hid (B3.out.trans (hb4.mono B3.out.size))
      have N4 := Lib.hid (N3.out.below hb4)
      have gh4 := (hb4.block _ lh3).trans GH3.out
      have h40 := cell_of_heap (i := 0) gh4 rfl
      have h41 := cell_of_heap (i := 1) gh4 rfl
      have h42 := cell_of_heap (i := 2) gh4 rfl
      have h43 := cell_of_heap (i := 3) gh4 rfl
      clear hb4 gh4
      go_wp2_with fail
      refine (items_none _ _ N4.out.2.2.2.2.2).mono ?_
      rintro e w5 ⟨rfl, hb5⟩
      have hfin := B4.out.trans (hb5.mono B4.out.size)
      go_wp2
      go_roundw
      case rel => exact ⟨1, by omega, rfl, hbx.out.trans (hfin.mono hbx.out.size)⟩
      case measure => simp [intOf]
    | 1, _ =>
      have n0 := HQ.out (by omega)
      rw [if_neg (by omega)] at n0
      have N0 := Lib.hid n0
      clear n0
      go_wp2_with fail
      refine (head_none _ _ N0.out.2.2.2.2.2).mono ?_
      rintro e w1 ⟨rfl, hb1⟩
      have N9 := Lib.hid (N0.out.below hb1)
      obtain ⟨l9, a9, b9, c9, d9, _⟩ := N9.out
      go_wp2_with fail
      obtain ⟨W1, hW1, gh1, hbW1, hsW1⟩ := boxed4 w1 0 0 0 0 31
      have B1 := Lib.hid (hb1.trans (hbW1.mono hb1.size))
      have N1 := Lib.hid (N0.out.below B1.out)
      have GH1 := Lib.hid gh1
      have lh1 : w1.heap.size < W1.heap.size := by omega
      clear hb1 hbW1 gh1 hsW1 a9 b9 c9 d9
      rw [hW1]
      clear hW1
      refine (push_none _ _ _ _ _ _ N1.out.2.2.2.2.2).mono ?_
      rintro e w2 ⟨rfl, hb2⟩
      have B2 := Lib.hid (B1.out.trans (hb2.mono B1.out.size))
      have N2 := Lib.hid (N1.out.below hb2)
      have GH2 := Lib.hid ((hb2.block _ lh1).trans GH1.out)
      have lh2 := lt_of_heap GH2.out
      obtain ⟨l2, b0, _, _, _, _⟩ := N2.out
      clear hb2
      go_wp2_with fail
      refine (rem_none _ _ _ N2.out.2.2.2.2.2).mono ?_
      rintro e w3 ⟨rfl, hb3⟩
      have B3 := Lib.hid (B2.out.trans (hb3.mono B2.out.size))
      have N3 := Lib.hid (N2.out.below hb3)
      have GH3 := Lib.hid ((hb3.block _ lh2).trans GH2.out)
      have lh3 := lt_of_heap GH3.out
      clear hb3
      go_wp2_with fail
      refine (age_none _ _ N3.out.2.2.2.2.2).mono ?_
      rintro e w4 ⟨rfl, hb4⟩
      have B4 := Lib.hid (B3.out.trans (hb4.mono B3.out.size))
      have N4 := Lib.hid (N3.out.below hb4)
      have gh4 := (hb4.block _ lh3).trans GH3.out
      have h40 := cell_of_heap (i := 0) gh4 rfl
      have h41 := cell_of_heap (i := 1) gh4 rfl
      have h42 := cell_of_heap (i := 2) gh4 rfl
      have h43 := cell_of_heap (i := 3) gh4 rfl
      clear hb4 gh4
      go_wp2_with fail
      refine (items_none _ _ N4.out.2.2.2.2.2).mono ?_
      rintro e w5 ⟨rfl, hb5⟩
      have hfin := B4.out.trans (hb5.mono B4.out.size)
      go_wp2
      go_roundw
      case rel => exact ⟨2, by omega, rfl, hbx.out.trans (hfin.mono hbx.out.size)⟩
      case measure => simp [intOf]
    | 2, _ =>
      go_wp2_with (go_at_call 9; refine (waits_calls _).mono ?_; rintro e w' ⟨rfl, ha⟩)
      go_ret
      refine ⟨rfl, ?_⟩
      have h1 := HB.out
      have h2 := HS.out
      have h3 := hbx.out
      exact h1.trans ((h3.mono (by omega)).trans (ha.mono (by have := h3.size; omega)))
end Go.Proofs.Ytcallnhkojgnmaa.Q
