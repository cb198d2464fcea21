/- TruthFar at all arguments. No condition but that they read. -/
import Derived.Test.YtpmgkmodpneiiaaFal
import Derived.Test.YtpmgkmodpneiiaaOpg
namespace Go.Proofs.Ytpmgkmodpneiiaa.E
open Go.RowKit Go.Sort Go.Shelf
open Go.Proofs.Ytpmgkmodpneiiaa.Ma
set_option linter.unusedVariables false
set_option linter.unusedSimpArgs false
set_option maxRecDepth 100000 in
set_option maxHeartbeats 4000000 in
theorem far_big (A : Option Addr) (c : Nat) (N s0 : Int) (P : List Ed) (w : World) (hlen : 300 < P.length) :
    Calls Try.prog 5 #[.agg #[.int .u8 N, .slice A P.length c], .int .u8 s0] w fun e w' => e = .returned (.bool true) ∧ Below w.heap.size w w' := by
  obtain ⟨W, hW, gW, hbl, hsz⟩ := box_new w (.cells #[.int .u8 N, .slice A P.length c] 41 (0, 0))
  have b1 : W.cell? ⟨w.heap.size, 1, none⟩ = some (.slice A P.length c) := cell_of_heap (i := 1) gW rfl
  have HB := Lib.hid hbl
  have HR := Lib.hid (round_at W)
  have x4 : (300 : Int) < (P.length : Int) := by omega
  have x5 : (P.length : Int) > 300 := x4
  have x6 : decide ((P.length : Int) > 300) = true := decide_eq_true x5
  clear gW hbl hsz hlen
  go_enter Try.func5, Try.ntmps5
  go_wp2_with (go_at_call 11; refine HR.out.mono ?_; rintro e w9 ⟨rfl, hb9⟩; have HB9 := Lib.hid hb9; clear hb9)
  go_ret
  exact ⟨rfl, HB.out.trans (HB9.out.mono HB.out.size)⟩
theorem far_all (A : Option Addr) (len c : Nat) (N s0 : Int) (P : List Ed) (w : World) (hP : P.length = len) (hN : 0 ≤ N ∧ N ≤ 255) (hs0 : 0 ≤ s0 ∧ s0 ≤ 255) (hL : Lies enc8 2 w A P) (hb8 : ∀ p ∈ P, (0 ≤ p.1 ∧ p.1 ≤ 255) ∧ 0 ≤ p.2 ∧ p.2 ≤ 255) :
    Calls Try.prog 5 #[.agg #[.int .u8 N, .slice A len c], .int .u8 s0] w fun e w' => e = .returned (.bool true) ∧ Below w.heap.size w w' := by
  subst hP
  by_cases h : P.length ≤ 300
  · exact farlaw_at A c N s0 P w hN hs0 hL hb8 h
  · exact far_big A c N s0 P w (by omega)
end Go.Proofs.Ytpmgkmodpneiiaa.E
