/- round: the chapter's graph. -/
import Derived.Test.YtpmgkmodpneiiaaOfr
namespace Go.Proofs.Ytpmgkmodpneiiaa.E
open Go.RowKit Go.Sort Go.Shelf
open Go.Proofs.Ytpmgkmodpneiiaa.Ma
set_option linter.unusedVariables false
set_option linter.unusedSimpArgs false
def ring3 : List Ed := [(0, 1), (1, 2), (2, 0)]
theorem r_one : refC 4 ring3 1 0 0 = 0 ∧ job 4 ring3 1 0 = ([0, 1, 2, farN], 3) := by decide +kernel
theorem r_two : refC 4 ring3 2 1 0 = 0 ∧ job 4 ring3 2 1 = ([4294967295, 4294967295, 4294967295, 644245094], 1) := by decide +kernel
theorem r_three : refC 4 ring3 3 0 0 = 0 ∧ (job 4 ring3 3 0).1 = [0, 0, 0, 3] := by decide +kernel
theorem r_four : refC 4 ring3 4 2 0 = 0 ∧ (job 4 ring3 4 2).1 = [1, 1, 1, 0] := by decide +kernel
theorem r_no : refC 4 ring3 3 1 0 = 2 := by decide +kernel
theorem box_lies {w : World} {b : Nat} {cs : Array Value} {T : TypeId} {fz : Nat × Nat} {L : List Ed} (h : w.heap[b]? = some (.cells cs T fz)) (hc : cs.toList = cellsK enc2 L) : Lies enc2 2 w (some ⟨b, 0, none⟩) L := fun j x hx => by
  refine ⟨b, 0, rfl, lt_of_heap h, fun i u hu => ?_⟩
  rw [Nat.zero_add]
  refine cell_of_heap h ?_
  have := cellsK_at enc2_len hx hu
  rw [← hc] at this
  simpa using this
theorem num_at {w : World} {g b : Nat} {M : List Nat} (h : UB w g M) (hb : UB w b M) (hm : M.length = 4) : Calls Try.prog 15 #[.slice (some ⟨g, 0, none⟩) 4 4, .slice (some ⟨b, 0, none⟩) 4 4] w fun e w' => e = .returned (.bool true) ∧ Below w.heap.size w w' := by
  have := numbers_at (some ⟨g, 0, none⟩) (some ⟨b, 0, none⟩) 4 4 (ints M) w h.lies hb.lies (by rw [ints_len]; omega)
  rw [ints_len, hm] at this
  exact this.mono fun e w' ⟨he, m, hw⟩ => ⟨he, by rw [hw]; exact below_drewNg w m⟩
/-- What a call tells of the ring. -/
theorem ring_of {b : Nat} {k a : Int} {M : List Nat} (hr : refC 4 ring3 k a 0 = 0) (hj : (job 4 ring3 k a).1 = M) (V : World) (h : Lies enc2 2 V (some ⟨b, 0, none⟩) ring3) :
    Calls Try.prog 12 #[.int .i64 4, .slice (some ⟨b, 0, none⟩) 3 3, .agg #[.int .i64 k, .int .i64 a, .int .i64 0, .int .i64 0]] V fun e w' => ∃ g, e = .returned (.tuple #[.slice (some ⟨g, 0, none⟩) 4 4, .int .i64 0]) ∧ UB w' g M ∧ V.heap.size ≤ g ∧ Below V.heap.size V w' := by
  have := ofr_ok (some ⟨b, 0, none⟩) 3 4 ring3 k a 0 0 V h hr
  rw [hj] at this
  exact this
theorem ring_no {b : Nat} {k a : Int} (hr : refC 4 ring3 k a 0 = 2) (V : World) (h : Lies enc2 2 V (some ⟨b, 0, none⟩) ring3) :
    Calls Try.prog 12 #[.int .i64 4, .slice (some ⟨b, 0, none⟩) 3 3, .agg #[.int .i64 k, .int .i64 a, .int .i64 0, .int .i64 0]] V fun e w' => e = .returned (.tuple #[.slice none 0 0, .int .i64 2]) ∧ Below V.heap.size V w' := by
  have := ofr_no (some ⟨b, 0, none⟩) 3 4 ring3 k a 0 0 V h (by decide) (by rw [hr]; decide)
  rw [hr] at this
  exact this
theorem ring_rounds {b : Nat} (V : World) (h : Lies enc2 2 V (some ⟨b, 0, none⟩) ring3) :
    Calls Try.prog 13 #[.int .i64 4, .slice (some ⟨b, 0, none⟩) 3 3, .agg #[.int .i64 1, .int .i64 0, .int .i64 0, .int .i64 0]] V fun e w' => e = .returned (.tuple #[.int .i64 3, .int .i64 0]) ∧ Below V.heap.size V w' := by
  have := rnd_ok (some ⟨b, 0, none⟩) 3 4 ring3 1 0 0 0 V h r_one.1
  rw [r_one.2] at this
  exact this
theorem num_box {w V : World} {g : Nat} {M : List Nat} {cs : Array Value} (h : UB w g M) (hm : M.length = 4) (hc : cs = uC M) (hV : Below w.heap.size w V) :
    Calls Try.prog 15 #[.slice (some ⟨g, 0, none⟩) 4 4, .slice (some ⟨V.heap.size, 0, none⟩) 4 4] (V.alloc (.cells cs 37 (0, 0))) fun e w' => e = .returned (.bool true) ∧ Below w.heap.size w w' := by
  subst hc
  have hb : Below V.heap.size V (V.alloc (.cells (uC M) 37 (0, 0))) := (Below.refl _ _).alloc (Nat.le_refl _) _
  have hb2 : Below w.heap.size w (V.alloc (.cells (uC M) 37 (0, 0))) := hV.trans (hb.mono hV.size)
  exact (num_at (h.fr (Fr.of_below hb2) (fun h => h)) (heap_alloc_new V _) hm).mono fun e w' ⟨he, h2⟩ => ⟨he, hb2.trans (h2.mono hb2.size)⟩
set_option maxRecDepth 100000 in
set_option maxHeartbeats 4000000 in
theorem round_at (w : World) : Calls Try.prog 11 #[] w fun e w' => e = .returned (.bool true) ∧ Below w.heap.size w w' := by
  obtain ⟨W, hW, gW, hbl, hsz⟩ := box_new w (.cells #[.int .i64 0, .int .i64 1, .int .i64 1, .int .i64 2, .int .i64 2, .int .i64 0] 27 (0, 0))
  have HL := Lib.hid (fun (V : World) (hV : Below W.heap.size W V) => (box_lies (L := ring3) gW rfl).below hV (Nat.le_refl _))
  have HB := Lib.hid hbl
  have C1 := Lib.hid (fun V hV => ring_of (b := w.heap.size) (M := [0, 1, 2, farN]) r_one.1 (by rw [r_one.2]) V hV)
  have C2 := Lib.hid (fun V hV => ring_of (b := w.heap.size) (M := [4294967295, 4294967295, 4294967295, 644245094]) r_two.1 (by rw [r_two.2]) V hV)
  have C3 := Lib.hid (fun V hV => ring_of (b := w.heap.size) r_three.1 r_three.2 V hV)
  have C4 := Lib.hid (fun V hV => ring_of (b := w.heap.size) r_four.1 r_four.2 V hV)
  have C5 := Lib.hid (fun V hV => ring_no (b := w.heap.size) r_no V hV)
  have CR := Lib.hid (fun V hV => ring_rounds (b := w.heap.size) V hV)
  clear gW hbl hsz
  go_enter Try.func11, Try.ntmps11
  go_upto_region 8 with (first
    | (have _ := B5; go_at_call 12; refine (C5.out _ (HL.out _ B5.out)).mono ?_; rintro e w6 ⟨rfl, hb⟩; have B6 := Lib.hid (B5.out.trans (hb.mono B5.out.size)); have E6 := Lib.hid hb; clear hb)
    | (have _ := B4; go_at_call 12; refine (C4.out _ (HL.out _ B4.out)).mono ?_; rintro e w5 ⟨g5, rfl, hu, hg, hb⟩; have B5 := Lib.hid (B4.out.trans (hb.mono B4.out.size)); have U5 := Lib.hid hu; have E5 := Lib.hid hb; clear hu hg hb)
    | (have _ := B3; go_at_call 12; refine (C3.out _ (HL.out _ B3.out)).mono ?_; rintro e w4 ⟨g4, rfl, hu, hg, hb⟩; have B4 := Lib.hid (B3.out.trans (hb.mono B3.out.size)); have U4 := Lib.hid hu; have E4 := Lib.hid hb; clear hu hg hb)
    | (have _ := B2; go_at_call 12; refine (C2.out _ (HL.out _ B2.out)).mono ?_; rintro e w3 ⟨g3, rfl, hu, hg, hb⟩; have B3 := Lib.hid (B2.out.trans (hb.mono B2.out.size)); have U3 := Lib.hid hu; have E3 := Lib.hid hb; clear hu hg hb)
    | (have _ := B1; go_at_call 13; refine (CR.out _ (HL.out _ B1.out)).mono ?_; rintro e w2 ⟨rfl, hb⟩; have B2 := Lib.hid (B1.out.trans (hb.mono B1.out.size)); have E2 := Lib.hid hb; clear hb)
    | (go_at_call 12; refine (C1.out _ (HL.out _ (Below.refl _ _))).mono ?_; rintro e w1 ⟨g1, rfl, hu, hg, hb⟩; have B1 := Lib.hid hb; have U1 := Lib.hid hu; clear hu hg hb))
  have F1 := U1.out.fr (Fr.of_below E2.out) (fun h => h) |>.fr (Fr.of_below E3.out) (fun h => h) |>.fr (Fr.of_below E4.out) (fun h => h) |>.fr (Fr.of_below E5.out) (fun h => h) |>.fr (Fr.of_below E6.out) (fun h => h)
  have F3 := U3.out.fr (Fr.of_below E4.out) (fun h => h) |>.fr (Fr.of_below E5.out) (fun h => h) |>.fr (Fr.of_below E6.out) (fun h => h)
  have F4 := U4.out.fr (Fr.of_below E5.out) (fun h => h) |>.fr (Fr.of_below E6.out) (fun h => h)
  have F5 := U5.out.fr (Fr.of_below E6.out) (fun h => h)
  have K1 := Lib.hid (fun V (hV : Below w6.heap.size w6 V) => num_box (cs := #[.int .u64 0, .int .u64 1, .int .u64 2, .int .u64 18446744073709551615]) F1 rfl rfl hV)
  have K3 := Lib.hid (fun V (hV : Below w6.heap.size w6 V) => num_box (cs := #[.int .u64 4294967295, .int .u64 4294967295, .int .u64 4294967295, .int .u64 644245094]) F3 rfl rfl hV)
  have K4 := Lib.hid (fun V (hV : Below w6.heap.size w6 V) => num_box (cs := #[.int .u64 0, .int .u64 0, .int .u64 0, .int .u64 3]) F4 rfl rfl hV)
  have K5 := Lib.hid (fun V (hV : Below w6.heap.size w6 V) => num_box (cs := #[.int .u64 1, .int .u64 1, .int .u64 1, .int .u64 0]) F5 rfl rfl hV)
  clear F1 F3 F4 F5
  go_wp2_with (first
    | (have _ := D9; go_at_call 15; refine (K5.out _ D9.out).mono ?_; rintro e w10 ⟨rfl, hb⟩; have D10 := Lib.hid hb; clear hb)
    | (have _ := D8; go_at_call 15; refine (K4.out _ D8.out).mono ?_; rintro e w9 ⟨rfl, hb⟩; have D9 := Lib.hid hb; clear hb)
    | (have _ := D7; go_at_call 15; refine (K3.out _ D7.out).mono ?_; rintro e w8 ⟨rfl, hb⟩; have D8 := Lib.hid hb; clear hb)
    | (go_at_call 15; refine (K1.out _ (Below.refl _ _)).mono ?_; rintro e w7 ⟨rfl, hb⟩; have D7 := Lib.hid hb; clear hb))
  go_ret
  exact ⟨rfl, HB.out.trans ((B6.out.trans (D10.out.mono B6.out.size)).mono HB.out.size)⟩
end Go.Proofs.Ytpmgkmodpneiiaa.E
