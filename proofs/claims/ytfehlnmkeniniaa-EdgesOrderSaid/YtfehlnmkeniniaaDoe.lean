/- The chapter's examples, walked. No condition. -/
import Derived.Test.YtfehlnmkeniniaaRdg
namespace Go.Proofs.Ytfehlnmkeniniaa.E
open Go.RowKit Go.Sort Go.Shelf
open Go.Proofs.Ytfehlnmkeniniaa.Ma
set_option linter.unusedVariables false
set_option linter.unusedSimpArgs false
abbrev lit2 (L : List Ed) : Obj := .cells (cellsK enc2 L).toArray 24 (0, 0)
abbrev litI (L : List Int) : Obj := .cells (cellsK encI L).toArray 3 (0, 0)
theorem lies_lit (V : World) (L : List Ed) : Lies enc2 2 (V.alloc (lit2 L)) (some ⟨V.heap.size, 0, none⟩) L := fun j x hx =>
  ⟨V.heap.size, 0, rfl, by simp, fun i u hu => by
    rw [Nat.zero_add]
    exact cell_of_heap (heap_alloc_new V _) (by simpa using cellsK_at enc2_len hx hu)⟩
theorem lies_litI (V : World) (L : List Int) : Lies encI 1 (V.alloc (litI L)) (some ⟨V.heap.size, 0, none⟩) L := fun j x hx =>
  ⟨V.heap.size, 0, rfl, by simp, fun i u hu => by
    rw [Nat.zero_add]
    exact cell_of_heap (heap_alloc_new V _) (by simpa using cellsK_at encI_len hx hu)⟩
theorem below_lit (V : World) (o : Obj) : Below V.heap.size V (V.alloc o) := (Below.refl _ _).alloc (Nat.le_refl _) _
theorem below_drew (V : World) (m : Nat) : Below V.heap.size V (V.drewN m) := (Fr.drewN (fun _ => False) V m).below (Nat.le_refl _) (fun k h => h.elim)
theorem Fresh.below {V W W' : World} (h : Below V.heap.size V W) (k : Below W.heap.size W W') : Below V.heap.size V W' := h.trans (k.mono h.size)
theorem norm_lit (n : Int) (L : List Ed) (R : Int × List Ed) (hR : normC n L = R) (hl : L.length ≤ 1000000) (V : World) : Calls Try.prog 8 #[.int .i64 n, .slice (some ⟨V.heap.size, 0, none⟩) L.length L.length] (V.alloc (lit2 L)) fun e w' => ∃ A' c', e = .returned (.tuple #[.slice A' R.2.length c', .int .i64 R.1]) ∧ Lies enc2 2 w' A' R.2 ∧ Below V.heap.size V w' :=
  (normal_at _ _ n L _ (lies_lit V L) hl).mono fun e w' ⟨v', he, hr, hb⟩ => by
    rw [hR] at he hr
    obtain ⟨A', c', rfl, _, _⟩ := row_open enc2_len hr
    exact ⟨A', c', he, row_lies enc2_len hr, Fresh.below (below_lit V _) hb⟩
theorem same_lit (A : Option Addr) (c : Nat) (L : List Ed) (hl : L.length ≤ 1000000) (V : World) (hL : Lies enc2 2 V A L) : Calls Try.prog 10 #[.slice A L.length c, .slice (some ⟨V.heap.size, 0, none⟩) L.length L.length] (V.alloc (lit2 L)) fun e w' => e = .returned (.bool true) ∧ Below V.heap.size V w' :=
  (same_at _ _ _ _ L _ (hL.below (below_lit V _) (Nat.le_refl _)) (lies_lit V L) hl).mono fun e w' ⟨he, m, hw⟩ => ⟨he, by rw [hw]; exact Fresh.below (below_lit V _) (below_drew _ m)⟩
theorem sameI_lit (A : Option Addr) (c : Nat) (L : List Int) (hl : L.length ≤ 1000000) (V : World) (hL : Lies encI 1 V A L) : Calls Try.prog 13 #[.slice A L.length c, .slice (some ⟨V.heap.size, 0, none⟩) L.length L.length] (V.alloc (litI L)) fun e w' => e = .returned (.bool true) ∧ Below V.heap.size V w' :=
  (sameI_at _ _ _ _ L _ (hL.below (below_lit V _) (Nat.le_refl _)) (lies_litI V L) hl).mono fun e w' ⟨he, m, hw⟩ => ⟨he, by rw [hw]; exact Fresh.below (below_lit V _) (below_drew _ m)⟩
theorem d_n1 (V : World) : Calls Try.prog 8 #[.int .i64 3, .slice (some ⟨V.heap.size, 0, none⟩) 3 3] (V.alloc (.cells #[.int .i64 2, .int .i64 0, .int .i64 0, .int .i64 1, .int .i64 2, .int .i64 0] 24)) fun e w' => ∃ A' c', e = .returned (.tuple #[.slice A' 2 c', .int .i64 0]) ∧ Lies enc2 2 w' A' [(0, 1), (2, 0)] ∧ Below V.heap.size V w' :=
  norm_lit 3 [(2, 0), (0, 1), (2, 0)] (0, [(0, 1), (2, 0)]) (by decide) (by decide) V
theorem d_n2 (V : World) : Calls Try.prog 8 #[.int .i64 3, .slice (some ⟨V.heap.size, 0, none⟩) 1 1] (V.alloc (.cells #[.int .i64 1, .int .i64 1] 24)) fun e w' => ∃ A' c', e = .returned (.tuple #[.slice A' 0 c', .int .i64 2]) ∧ Lies enc2 2 w' A' [] ∧ Below V.heap.size V w' :=
  norm_lit 3 [(1, 1)] (2, []) (by decide) (by decide) V
theorem d_n3 (V : World) : Calls Try.prog 8 #[.int .i64 3, .slice (some ⟨V.heap.size, 0, none⟩) 1 1] (V.alloc (.cells #[.int .i64 0, .int .i64 3] 24)) fun e w' => ∃ A' c', e = .returned (.tuple #[.slice A' 0 c', .int .i64 2]) ∧ Lies enc2 2 w' A' [] ∧ Below V.heap.size V w' :=
  norm_lit 3 [(0, 3)] (2, []) (by decide) (by decide) V
theorem d_s1 (A : Option Addr) (c : Nat) (V : World) (hL : Lies enc2 2 V A [(0, 1), (2, 0)]) : Calls Try.prog 10 #[.slice A 2 c, .slice (some ⟨V.heap.size, 0, none⟩) 2 2] (V.alloc (.cells #[.int .i64 0, .int .i64 1, .int .i64 2, .int .i64 0] 24)) fun e w' => e = .returned (.bool true) ∧ Below V.heap.size V w' :=
  same_lit A c [(0, 1), (2, 0)] (by decide) V hL
theorem d_s2 (A : Option Addr) (c : Nat) (V : World) (hL : Lies enc2 2 V A [(1, 0), (1, 2), (2, 0)]) : Calls Try.prog 10 #[.slice A 3 c, .slice (some ⟨V.heap.size, 0, none⟩) 3 3] (V.alloc (.cells #[.int .i64 1, .int .i64 0, .int .i64 1, .int .i64 2, .int .i64 2, .int .i64 0] 24)) fun e w' => e = .returned (.bool true) ∧ Below V.heap.size V w' :=
  same_lit A c [(1, 0), (1, 2), (2, 0)] (by decide) V hL
abbrev mL : List Ed := [(0, 1), (0, 2), (2, 1)]
theorem d_deg (V : World) : Calls Try.prog 11 #[.int .i64 3, .slice (some ⟨V.heap.size, 0, none⟩) 3 3] (V.alloc (.cells #[.int .i64 0, .int .i64 1, .int .i64 0, .int .i64 2, .int .i64 2, .int .i64 1] 24)) fun e w' => ∃ A1 c1 A2 c2, e = .returned (.tuple #[.slice A1 3 c1, .slice A2 3 c2]) ∧ Lies encI 1 w' A1 [2, 0, 1] ∧ Lies encI 1 w' A2 [0, 2, 1] ∧ Lies enc2 2 w' (some ⟨V.heap.size, 0, none⟩) mL ∧ Below V.heap.size V w' :=
  (deg_at _ 3 3 mL (V.alloc (lit2 mL)) (lies_lit V mL) (by decide)).mono fun e w' ⟨A1, c1, A2, c2, he, h1, h2, hb⟩ =>
    ⟨A1, c1, A2, c2, he, row_lies encI_len h1, row_lies encI_len h2, (lies_lit V mL).below hb (Nat.le_refl _), Fresh.below (below_lit V _) hb⟩
theorem d_out (b : Nat) (V : World) (hL : Lies enc2 2 V (some ⟨b, 0, none⟩) mL) : Calls Try.prog 14 #[.slice (some ⟨b, 0, none⟩) 3 3, .int .i64 0] V fun e w' => ∃ A' c', e = .returned (.slice A' 2 c') ∧ Lies encI 1 w' A' [1, 2] ∧ Below V.heap.size V w' :=
  (out_at _ 3 0 mL V hL (by decide)).mono fun e w' ⟨A', c', he, hr, hb⟩ => ⟨A', c', he, row_lies encI_len hr, hb⟩
theorem d_rev (b : Nat) (V : World) (hL : Lies enc2 2 V (some ⟨b, 0, none⟩) mL) : Calls Try.prog 16 #[.slice (some ⟨b, 0, none⟩) 3 3] V fun e w' => ∃ A' c', e = .returned (.slice A' 3 c') ∧ Lies enc2 2 w' A' [(1, 0), (1, 2), (2, 0)] ∧ Below V.heap.size V w' :=
  (reverse_at _ 3 mL V hL (by decide)).mono fun e w' ⟨A', c', he, hr, hb⟩ => ⟨A', c', he, row_lies (L := [(1, 0), (1, 2), (2, 0)]) enc2_len hr, hb⟩
theorem d_i1 (A : Option Addr) (c : Nat) (V : World) (hL : Lies encI 1 V A [1, 2]) : Calls Try.prog 13 #[.slice A 2 c, .slice (some ⟨V.heap.size, 0, none⟩) 2 2] (V.alloc (.cells #[.int .i64 1, .int .i64 2] 3)) fun e w' => e = .returned (.bool true) ∧ Below V.heap.size V w' :=
  sameI_lit A c [1, 2] (by decide) V hL
theorem d_i2 (A : Option Addr) (c : Nat) (V : World) (hL : Lies encI 1 V A [2, 0, 1]) : Calls Try.prog 13 #[.slice A 3 c, .slice (some ⟨V.heap.size, 0, none⟩) 3 3] (V.alloc (.cells #[.int .i64 2, .int .i64 0, .int .i64 1] 3)) fun e w' => e = .returned (.bool true) ∧ Below V.heap.size V w' :=
  sameI_lit A c [2, 0, 1] (by decide) V hL
theorem d_i3 (A : Option Addr) (c : Nat) (V : World) (hL : Lies encI 1 V A [0, 2, 1]) : Calls Try.prog 13 #[.slice A 3 c, .slice (some ⟨V.heap.size, 0, none⟩) 3 3] (V.alloc (.cells #[.int .i64 0, .int .i64 2, .int .i64 1] 3)) fun e w' => e = .returned (.bool true) ∧ Below V.heap.size V w' :=
  sameI_lit A c [0, 2, 1] (by decide) V hL
set_option maxRecDepth 100000 in
set_option maxHeartbeats 4000000 in
theorem does_at (w : World) : Calls Try.prog 18 #[] w fun e w' => e = .returned (.bool true) ∧ Below w.heap.size w w' := by
  go_enter Try.func18, Try.ntmps18
  go_wp2_with (first
    | (go_at_call 10; refine (d_s2 _ _ w11 LR.out).mono ?_; rintro e w12 ⟨rfl, hb⟩; have B12 := Lib.hid (Fresh.below B11.out hb); clear hb)
    | (go_at_call 16; refine (d_rev _ w10 (LM.out.below ((h64.out.trans (h75.out.mono h64.out.size)).trans ((h86.out.mono (Nat.le_trans h64.out.size h75.out.size)).trans (hA.out.mono (Nat.le_trans h64.out.size (Nat.le_trans h75.out.size h86.out.size))))) (Nat.le_refl _))).mono ?_; rintro e w11 ⟨A11, c11, rfl, h1, hb⟩; have LR := Lib.hid h1; have B11 := Lib.hid (Fresh.below B10.out hb); clear h1 hb)
    | (go_at_call 13; refine (d_i3 _ _ w9 (L2.out.below ((h64.out.trans (h75.out.mono h64.out.size)).trans (h86.out.mono (Nat.le_trans h64.out.size h75.out.size))) (Nat.le_refl _))).mono ?_; rintro e w10 ⟨rfl, hb⟩; have B10 := Lib.hid (Fresh.below B9.out hb); have hA := Lib.hid hb; clear hb)
    | (go_at_call 13; refine (d_i2 _ _ w8 (L1.out.below (h64.out.trans (h75.out.mono h64.out.size)) (Nat.le_refl _))).mono ?_; rintro e w9 ⟨rfl, hb⟩; have B9 := Lib.hid (Fresh.below B8.out hb); have h86 := Lib.hid hb; clear hb)
    | (go_at_call 13; refine (d_i1 _ _ w7 LO.out).mono ?_; rintro e w8 ⟨rfl, hb⟩; have B8 := Lib.hid (Fresh.below B7.out hb); have h75 := Lib.hid (Fresh.below h76.out hb); clear hb)
    | (go_at_call 14; refine (d_out _ w6 (LM.out.below h64.out (Nat.le_refl _))).mono ?_; rintro e w7 ⟨A7, c7, rfl, h1, hb⟩; have LO := Lib.hid h1; have B7 := Lib.hid (Fresh.below B6.out hb); have h76 := Lib.hid hb; clear h1 hb)
    | (go_at_call 10; refine (d_s1 _ _ w4 (LN.out.below (hb2.out.trans ((hb3.out.mono hb2.out.size).trans (hb4.out.mono (Nat.le_trans hb2.out.size hb3.out.size)))) (Nat.le_refl _))).mono ?_; rintro e w6 ⟨rfl, hb⟩; have B6 := Lib.hid (Fresh.below B4.out hb); have h64 := Lib.hid hb; clear hb)
    | (go_at_call 11; refine (d_deg w3).mono ?_; rintro e w4 ⟨A1, c1, A2, c2, rfl, h1, h2, h3, hb⟩; have L1 := Lib.hid h1; have L2 := Lib.hid h2; have LM := Lib.hid h3; have B4 := Lib.hid (Fresh.below B3.out hb); have hb4 := Lib.hid hb; clear h1 h2 h3 hb)
    | (go_at_call 8; refine (d_n3 w2).mono ?_; rintro e w3 ⟨A4, c4, rfl, _, hb⟩; have B3 := Lib.hid (Fresh.below B2.out hb); have hb3 := Lib.hid hb; clear hb)
    | (go_at_call 8; refine (d_n2 w1).mono ?_; rintro e w2 ⟨A3, c3, rfl, _, hb⟩; have B2 := Lib.hid (Fresh.below B1.out hb); have hb2 := Lib.hid hb; clear hb)
    | (go_at_call 8; refine (d_n1 w).mono ?_; rintro e w1 ⟨A0, c0, rfl, h1, hb⟩; have LN := Lib.hid h1; have B1 := Lib.hid hb; clear h1 hb))
  go_ret
  exact ⟨rfl, B12.out⟩
end Go.Proofs.Ytfehlnmkeniniaa.E
