/- carousellaw10.does: the chapter's shard. No condition. -/
import Derived.Test.YtdlmkdldmiiaiaaMak
namespace Go.Proofs.Ytdlmkdldmiiaiaa.E
open Go.RowKit Go.Sort Go.Shelf
open Go.Proofs.Ytdlmkdldmiiaiaa.Ma Go.Proofs.Ytdlmkdldmiiaiaa.By Go.Proofs.Ytdlmkdldmiiaiaa.Enc
set_option linter.unusedVariables false
set_option linter.unusedSimpArgs false
def edges0 : List Ed := [(0, 1), (0, 2), (2, 1)]
def lists0 : List (List Int) := [[1, 2], [], [1]]
def body0 : List UInt8 := [115, 104, 0, 3, 2, 18, 2, 1, 0, 0, 1, 1, 3]
set_option maxRecDepth 100000 in
theorem grid0 : gridOf 0 3 edges0 = lists0 := by decide +kernel
theorem srtI_sorted {L : List Int} (h : L.Pairwise (· ≤ ·)) : srtI L = L := by
  unfold srtI
  exact List.mergeSort_of_pairwise (h.imp fun h => by simpa using h)
theorem make0 : mkS 0 3 edges0 = (0, 3, lists0) := by
  unfold mkS mkO
  rw [if_pos (by decide), show ((3 : Int) - 0).toNat = 3 from rfl, grid0]
  unfold lists0
  simp only [List.map_cons, List.map_nil]
  rw [srtI_sorted (L := [1, 2]) (by simp), srtI_sorted (L := []) (by simp), srtI_sorted (L := [1]) (by simp)]
  decide
set_option maxRecDepth 100000 in
theorem bodyL0 : bodyL 0 3 lists0 = body0 := by decide +kernel
set_option maxRecDepth 100000 in
theorem encS0 : encS 0 3 lists0 = (Crc.sealL body0, 0) := by decide +kernel
set_option maxRecDepth 100000 in
theorem decS0 : decS (bytesB (Crc.sealL body0)) = (0, 3, lists0, 0) := by decide +kernel
set_option maxRecDepth 100000 in
theorem check0 : checkC 0 3 [[0], [], [1]] = 2 := by decide +kernel
theorem seal0 : Crc.sealL body0 = body0 ++ Crc.sum4 body0 := rfl
theorem cell_add (w : World) (g o : Nat) (v : Value) (cs : Array Value) (T : TypeId) (h : w.heap[g]? = some (.cells cs T (0, 0))) (hv : cs[o]? = some v) : w.cell? ⟨g, o, none⟩ = some v := cell_of_heap h hv
/-- A literal list of numbers. -/
theorem lies_lit (w : World) (g : Nat) (L : List Int) (h : w.heap[g]? = some (.cells (L.map (Value.int .i64)).toArray 3 (0, 0))) : Lies encI 1 w (some ⟨g, 0, none⟩) L := fun j x hx => by
  refine ⟨g, 0, rfl, lt_of_heap h, fun i u hu => ?_⟩
  have hi : i = 0 := by
    have := (List.getElem?_eq_some_iff.1 hu).1
    simp at this
    exact this
  subst hi
  simp at hu
  subst hu
  refine cell_of_heap h ?_
  simp [hx]
/-- Three lists, the second one nil, that lie there. -/
theorem liesR_three (w : World) (g a c n m : Nat) (L M : List Int) (h : w.heap[g]? = some (.cells #[.slice (some ⟨a, 0, none⟩) n n, .slice none 0 0, .slice (some ⟨c, 0, none⟩) m m] 62 (0, 0))) (hn : L.length = n) (hm : M.length = m)
    (hs : n ≤ 1000 ∧ m ≤ 1000) (h1 : Lies encI 1 w (some ⟨a, 0, none⟩) L) (h2 : Lies encI 1 w (some ⟨c, 0, none⟩) M) : LiesR w (some ⟨g, 0, none⟩) [L, [], M] := fun j X hX => by
  subst hn hm
  refine ⟨g, 0, rfl, lt_of_heap h, ?_⟩
  match j, hX with
  | 0, hX => cases hX; exact ⟨_, _, cell_of_heap h rfl, Nat.le_refl _, by omega, h1⟩
  | 1, hX => cases hX; exact ⟨none, 0, cell_of_heap h rfl, Nat.le_refl _, by omega, fun j x hx => by simp at hx⟩
  | 2, hX => cases hX; exact ⟨_, _, cell_of_heap h rfl, Nat.le_refl _, by omega, h2⟩
/-- Two rows, and a row of three. -/
theorem three_rows (w : World) (x y z : Array Value) (Tx Tz : TypeId) : ∃ W, ((w.alloc (.cells x Tx)).alloc (.cells y Tx)).alloc (.cells z Tz) = W ∧ W.heap[w.heap.size]? = some (.cells x Tx (0, 0)) ∧ W.heap[w.heap.size + 1]? = some (.cells y Tx (0, 0)) ∧ W.heap[w.heap.size + 1 + 1]? = some (.cells z Tz (0, 0)) ∧ Below w.heap.size w W ∧ W.heap.size = w.heap.size + 3 := by
  obtain ⟨W, h, a, b, c, d, e⟩ := alloc3 w (.cells x Tx) (.cells y Tx) (.cells z Tz)
  exact ⟨W, h, a, b, c, e, d⟩
set_option maxRecDepth 100000 in
set_option maxHeartbeats 4000000 in
theorem does_at (w : World) : Calls Try.prog 14 #[] w fun e w' => e = .returned (.bool true) ∧ Below w.heap.size w w' := by
  obtain ⟨W0, hW0, gW0, bW0, sW0⟩ := box_new w (.cells #[.int .i64 0, .int .i64 1, .int .i64 0, .int .i64 2, .int .i64 2, .int .i64 1] 41 (0, 0))
  have HL0 := Lib.hid (show Lies enc2 2 W0 (some ⟨w.heap.size, 0, none⟩) edges0 from fun j x hx => ⟨w.heap.size, 0, rfl, lt_of_heap gW0, fun i u hu => by
    have hi := (List.getElem?_eq_some_iff.1 hu).1
    have hj := (List.getElem?_eq_some_iff.1 hx).1
    simp [edges0] at hj
    simp at hi
    refine cell_of_heap gW0 ?_
    match j, hj, hx with
    | 0, _, hx => cases hx; match i, hi, hu with | 0, _, hu => exact hu | 1, _, hu => exact hu
    | 1, _, hx => cases hx; match i, hi, hu with | 0, _, hu => exact hu | 1, _, hu => exact hu
    | 2, _, hx => cases hx; match i, hi, hu with | 0, _, hu => exact hu | 1, _, hu => exact hu⟩)
  have HB0 := Lib.hid bW0
  have HMK := Lib.hid (make_at (some ⟨w.heap.size, 0, none⟩) 3 edges0 0 3 W0 HL0.out (by decide))
  rw [make0] at HMK
  unfold shV partV at HMK
  clear gW0 bW0 sW0
  go_enter Try.func14, Try.ntmps14
  go_upto_region 2 with (go_at_call 11; refine HMK.out.mono ?_; rintro e w1 ⟨A1, c1, rfl, hl1, hc1, hb1⟩; have HL1 := Lib.hid hl1; have HC1 := Lib.hid hc1; have HB1 := Lib.hid hb1; clear hl1 hc1 hb1)
  obtain ⟨W2, hW2, gW2, bW2, sW2⟩ := box_new w1 (.cells #[.int .i64 0, .int .i64 3, .slice A1 lists0.length c1] 28 (0, 0))
  rw [hW2]
  obtain ⟨Sb, hSb⟩ : ∃ Sb, w1.heap.size = Sb := ⟨_, rfl⟩
  rw [hSb] at gW2 ⊢
  have HG2 := Lib.hid (show Box3 W2 Sb 0 3 (.slice A1 lists0.length c1) from gW2)
  have HL2 := Lib.hid (HL1.out.below bW2 (Nat.le_refl _))
  have HB2 := Lib.hid (show Below w.heap.size w W2 from (HB0.out.trans (HB1.out.mono HB0.out.size)).trans (bW2.mono (Nat.le_trans HB0.out.size HB1.out.size)))
  have HEN := Lib.hid (encS_at 0 3 A1 c1 lists0 W2 HL2.out (by decide) (by decide))
  rw [encS0] at HEN
  unfold shV at HEN
  dsimp only at HEN
  obtain ⟨TB, hTB⟩ : ∃ T, bytesB (Crc.sealL body0) = T := ⟨_, rfl⟩
  have HDE := Lib.hid (fun V => decS_at (bytesB (Crc.sealL body0)) V (by rw [bytesB_size]; decide))
  rw [decS0] at HDE
  unfold shV at HDE
  dsimp only at HDE
  rw [hTB] at HEN HDE
  have hsz : TB.size = 17 := by rw [← hTB, bytesB_size]; rfl
  have je : ((TB.extract 0 13).toList == [115, 104, 0, 3, 2, 18, 2, 1, 0, 0, 1, 1, 3]) = true := by rw [ByteArray.toList_eq, ← hTB]; decide +kernel
  have HTB := Lib.hid hTB
  obtain ⟨q0, q1, q2, _, _, _⟩ := Box3.cells HG2.out
  clear hW2 gW2 bW2 sW2 hSb hTB hW0
  go_upto_region 3 with (go_at_call 16; refine HEN.out.mono ?_; rintro e w3 ⟨rfl, hb3⟩; have HB3 := Lib.hid hb3; clear hb3)
  have HG3 := Lib.hid ((Fr.of_below HB3.out).keep HG2.out (fun e => e))
  have HL3 := Lib.hid (HL2.out.below HB3.out (Nat.le_refl _))
  have HB03 := Lib.hid (HB2.out.trans (HB3.out.mono HB2.out.size))
  clear q0 q1 q2
  obtain ⟨q0, q1, q2, _, _, _⟩ := Box3.cells HG3.out
  obtain ⟨W4, hW4, a1, a2, a3, bW4, sW4⟩ := three_rows w3 #[.int .i64 1, .int .i64 2] #[.int .i64 1] #[.slice (some ⟨w3.heap.size, 0, none⟩) 2 2, .slice none 0 0, .slice (some ⟨w3.heap.size + 1, 0, none⟩) 1 1] 3 62
  have HL4 := Lib.hid (show LiesR W4 (some ⟨w3.heap.size + 1 + 1, 0, none⟩) lists0 from liesR_three W4 _ _ _ 2 1 [1, 2] [1] a3 rfl rfl (by omega) (lies_lit W4 _ [1, 2] a1) (lies_lit W4 _ [1] a2))
  have HSM := Lib.hid (same_at 0 3 A1 c1 lists0 0 3 (some ⟨w3.heap.size + 1 + 1, 0, none⟩) 3 lists0 W4 (HL3.out.below bW4 (Nat.le_refl _)) HL4.out (by decide) (by decide) (by decide) (by decide))
  rw [show sameC 0 3 lists0 0 3 lists0 = true from by decide] at HSM
  unfold shV at HSM
  have HB4 := Lib.hid bW4
  have G4 := Lib.hid ((Fr.of_below bW4).keep HG3.out (fun e => e))
  clear a1 a2 a3 bW4 sW4
  go_upto_region 6 with (first | (go_at_call 10; refine HSM.out.mono ?_; rintro e w5 ⟨rfl, hb5⟩; have HB5 := Lib.hid hb5; clear hb5) | (go_at_call 15; refine (HDE.out w5).mono ?_; rintro e w6 ⟨A6, c6, rfl, hl6, hc6, hb6⟩; have HL6 := Lib.hid hl6; have HC6 := Lib.hid hc6; have HB6 := Lib.hid hb6; clear hl6 hc6 hb6))
  obtain ⟨W7, hW7, gW7, bW7, sW7⟩ := box_new w6 (.cells #[.int .i64 0, .int .i64 3, .slice A6 lists0.length c6] 28 (0, 0))
  rw [hW7]
  have h36 : Below w3.heap.size w3 w6 := (HB4.out.trans (HB5.out.mono HB4.out.size)).trans (HB6.out.mono (Nat.le_trans HB4.out.size HB5.out.size))
  have h37 : Below w3.heap.size w3 W7 := h36.trans (bW7.mono h36.size)
  have HB7 := Lib.hid (HB03.out.trans (h37.mono HB03.out.size))
  have HG7 := Lib.hid ((Fr.of_below h37).keep HG3.out (fun e => e))
  have HD7 := Lib.hid (show Box3 W7 w6.heap.size 0 3 (.slice A6 lists0.length c6) from gW7)
  have HL7 := Lib.hid (HL6.out.below bW7 (Nat.le_refl _))
  have HS7 := Lib.hid (HL3.out.below h37 (Nat.le_refl _))
  have HSM7 := Lib.hid (same_at 0 3 A6 c6 lists0 0 3 A1 c1 lists0 W7 HL7.out HS7.out (by decide) (by decide) (by decide) (by decide))
  rw [show sameC 0 3 lists0 0 3 lists0 = true from by decide] at HSM7
  unfold shV at HSM7
  clear q0 q1 q2 hW4 hW7 gW7 bW7 sW7 h36 h37 je hsz
  obtain ⟨q0, q1, q2, _, _, _⟩ := Box3.cells HG7.out
  obtain ⟨d0, d1, d2, _, _, _⟩ := Box3.cells HD7.out
  go_wp2_with (first | (go_at_call 10; refine HSM7.out.mono ?_; rintro e w8 ⟨rfl, hb8⟩; have HB8 := Lib.hid hb8; have g8 := (Fr.of_below hb8).keep HG7.out (fun e => e); obtain ⟨q80, q81, q82, _, _, _⟩ := Box3.cells g8; clear hb8 g8) | (go_at_call 17; obtain ⟨W9, hW9, a1, a2, a3, bW9, sW9⟩ := three_rows w8 #[.int .i64 0] #[.int .i64 1] #[.slice (some ⟨w8.heap.size, 0, none⟩) 1 1, .slice none 0 0, .slice (some ⟨w8.heap.size + 1, 0, none⟩) 1 1] 3 62; rw [hW9]; refine (checks_at 0 3 (some ⟨w8.heap.size + 1 + 1, 0, none⟩) 3 [[0], [], [1]] W9 (liesR_three W9 _ _ _ 1 1 [0] [1] a3 rfl rfl (by omega) (lies_lit W9 _ [0] a1) (lies_lit W9 _ [1] a2)) (by decide) (by decide)).mono ?_; rw [check0]; rintro e w10 ⟨rfl, hb10⟩; have HB10 := Lib.hid (HB7.out.trans ((HB8.out.trans ((bW9.trans (hb10.mono bW9.size)).mono HB8.out.size)).mono HB7.out.size)); clear hb10 hW9 a1 a2 a3 bW9 sW9))
  go_ret
  exact ⟨rfl, HB10.out⟩
end Go.Proofs.Ytdlmkdldmiiaiaa.E
