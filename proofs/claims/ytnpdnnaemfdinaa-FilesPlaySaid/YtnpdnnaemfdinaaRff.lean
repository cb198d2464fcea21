/- The document's Flip. Conditions: those that the theorem names. -/
import Derived.Test.YtnpdnnaemfdinaaRfp
namespace Go.Proofs.Ytnpdnnaemfdinaa.F
open Go.RowKit Go.Maps Go.Sort Go.Shelf
open Go.Proofs.Ytnpdnnaemfdinaa.Ma
set_option linter.unusedVariables false
set_option linter.unusedSimpArgs false
section
variable {X : Nat → Prop} {w : World} {r : Nat} {room left : Int} {D : List De}
set_option maxRecDepth 100000 in
set_option maxHeartbeats 4000000 in
theorem rflip_at (s : ByteArray) (i at_ : Int) (z : UInt8) (h : RfX X w r room left D) (hrise : D.Pairwise fun p q => nm p.1 < nm q.1) (hn : D.length ≤ 4096) (hll : (lookD D s).length ≤ 4096) (hfull : ∀ x ∈ lookD D s, x.size = 128) :
    Calls Try.prog 51 #[.pointer (some ⟨r, 0, none⟩), .string s, .int .i64 i, .int .i64 at_, .int .u8 (z.toNat : Int)] w fun e w' => e = .returned (.int .i64 (flipF D s i at_ z).1) ∧ RfX (Xw X w w') w' r room left (flipF D s i at_ z).2 ∧ Fr (fun k => k = r) w w' := by
  obtain ⟨rr, hrr⟩ : ∃ q, flipF D s i at_ z = q := ⟨_, rfl⟩
  rw [hrr]
  have HRR := Lib.hid hrr
  have H0 := Lib.hid (h.mono (fun k hk => .inl hk) : RfX (Xw X w w) w r room left D)
  have HR := Lib.hid (rows_at s h hn)
  have HS := Lib.hid (fun (w7 : World) (A7 : Option Addr) (c7 m : Nat) (P : List ByteArray) (hb : Below w.heap.size w w7) (hm : P.length = m) (hrow : w7.ownsRow w.heap.size 9 1 (.slice A7 m c7) m (cellsK encS P)) => set_own (s := s) h hrise hn hb hm hrow)
  obtain ⟨P, hP⟩ : ∃ P, lookD D s = P := ⟨_, rfl⟩
  rw [hP] at HR hll hfull
  obtain ⟨m, hm⟩ : ∃ m, P.length = m := ⟨_, rfl⟩
  rw [hm] at HR hll
  have HP := Lib.hid (And.intro hP hm)
  have HFU := Lib.hid hfull
  clear hrr h hrise hn hP hm hfull
  by_cases i0 : i < 0
  · have HV := Lib.hid (show rr = (4, D) by
      rw [← HRR.out]
      unfold flipF thereD
      rw [if_pos (by rw [if_neg (by omega)])])
    have d0 : decide (i < 0) = true := decide_eq_true i0
    go_enter Try.func51, Try.ntmps51
    go_wp2_with (go_at_call 54; refine HR.out.mono ?_; rintro e w' ⟨A, c, rfl, _, _, rfl⟩)
    go_ret
    exact ⟨by rw [HV.out]; rfl, by rw [HV.out]; exact H0.out, Fr.refl _ _⟩
  have d0 : decide (i < 0) = false := decide_eq_false i0
  by_cases im : (m : Int) ≤ i
  · have HV := Lib.hid (show rr = (4, D) by
      rw [← HRR.out]
      unfold flipF thereD
      rw [if_pos (by rw [HP.out.1, HP.out.2, if_neg (by omega)])])
    have d1 : decide ((m : Int) ≤ i) = true := decide_eq_true im
    go_enter Try.func51, Try.ntmps51
    go_wp2_with (go_at_call 54; refine HR.out.mono ?_; rintro e w' ⟨A, c, rfl, _, _, rfl⟩)
    go_ret
    exact ⟨by rw [HV.out]; rfl, by rw [HV.out]; exact H0.out, Fr.refl _ _⟩
  have d1 : decide ((m : Int) ≤ i) = false := decide_eq_false im
  have hth : ¬ thereD D s i = 4 := by unfold thereD; rw [HP.out.1, HP.out.2, if_pos ⟨by omega, by omega⟩]; decide
  by_cases a0 : at_ < 0
  · have HV := Lib.hid (show rr = (2, D) by
      rw [← HRR.out]
      unfold flipF
      rw [if_neg hth, if_pos (.inl a0)])
    have d2 : decide (at_ < 0) = true := decide_eq_true a0
    clear hth
    go_enter Try.func51, Try.ntmps51
    go_wp2_with (go_at_call 54; refine HR.out.mono ?_; rintro e w' ⟨A, c, rfl, _, _, rfl⟩)
    go_ret
    exact ⟨by rw [HV.out]; rfl, by rw [HV.out]; exact H0.out, Fr.refl _ _⟩
  have d2 : decide (at_ < 0) = false := decide_eq_false a0
  by_cases a1 : 128 ≤ at_
  · have HV := Lib.hid (show rr = (2, D) by
      rw [← HRR.out]
      unfold flipF
      rw [if_neg hth, if_pos (.inr a1)])
    have d3 : decide (128 ≤ at_) = true := decide_eq_true a1
    clear hth
    go_enter Try.func51, Try.ntmps51
    go_wp2_with (go_at_call 54; refine HR.out.mono ?_; rintro e w' ⟨A, c, rfl, _, _, rfl⟩)
    go_ret
    exact ⟨by rw [HV.out]; rfl, by rw [HV.out]; exact H0.out, Fr.refl _ _⟩
  have d3 : decide (128 ≤ at_) = false := decide_eq_false a1
  obtain ⟨j, rfl⟩ : ∃ j : Nat, i = (j : Int) := ⟨i.toNat, by omega⟩
  obtain ⟨t, rfl⟩ : ∃ t : Nat, at_ = (t : Int) := ⟨at_.toNat, by omega⟩
  have hjm : j < m := by omega
  have ht8 : t < 128 := by omega
  obtain ⟨y, hy⟩ : ∃ y, P[j]? = some y := ⟨_, List.getElem?_eq_getElem (by have := HP.out.2; omega)⟩
  have hy8 : y.size = 128 := HFU.out y (List.mem_of_getElem? hy)
  have hts : t < y.size := by omega
  obtain ⟨v, hv⟩ : ∃ v, y.data[t]'hts = v := ⟨_, rfl⟩
  have hfl : flipB y t z = ⟨y.data.setIfInBounds t (v ^^^ z)⟩ := by
    unfold flipB
    rw [← hv]
    have : y.data.getD t 0 = y.data[t]'hts := by unfold Array.getD; exact dif_pos hts
    rw [this]
  obtain ⟨x, hx⟩ : ∃ x, flipB y t z = x := ⟨_, rfl⟩
  rw [hx] at hfl
  have HV := Lib.hid (show rr = (0, setD s (P.set j x) D) by
    rw [← HRR.out]
    unfold flipF
    rw [if_neg hth, if_neg (by omega), HP.out.1, Int.toNat_natCast, Int.toNat_natCast, show P.getD j ⟨#[]⟩ = y by simp [List.getD, hy], hx])
  obtain ⟨W1, cc, C, hcv, hW1, hbl, hC⟩ := bytes_of w y
  have cz : W1.cell? ⟨w.heap.size, t, none⟩ = some (.int .u8 (v.toNat : Int)) := cell_of_heap hW1 (by rw [hC t hts, hv])
  have cf : W1.frozen? ⟨w.heap.size, t, none⟩ = false := by
    have : t < C.size := (Array.getElem?_eq_some_iff.1 (hC t hts)).1
    simp [World.frozen?, hW1]
    omega
  have j1 : (j : Int) < (m : Int) := by omega
  have j2 : (t : Int) < 128 := by omega
  have j3 : (j : Int) < 4096 := by omega
  rw [hy8] at hcv
  have HY := Lib.hid hy
  have HFL := Lib.hid hfl
  have HC := Lib.hid hC
  have HW := Lib.hid hW1
  have HBL := Lib.hid hbl
  have HTS := Lib.hid hts
  have HY8 := Lib.hid hy8
  have HJ := Lib.hid hjm
  clear hth i0 im a0 a1 hjm ht8 hy hy8 hts hv hfl hx hW1 hbl hC
  go_enter Try.func51, Try.ntmps51
  have HW2 := Lib.hid (show ∀ W2, W1.setCell ⟨w.heap.size, t, none⟩ (.int .u8 (bits .xor .u8 (v.toNat : Int) (z.toNat : Int))) = W2 → Below w.heap.size w W2 ∧ W2.heap[w.heap.size]? = some (.cells (C.setIfInBounds t (.int .u8 ((v ^^^ z).toNat : Int))) 5 (C.size, C.size + 1)) from fun W2 hW2 =>
    ⟨by rw [← hW2]; exact ((Fr.of_below HBL.out).step (Fr.setCell W1 ⟨w.heap.size, t, none⟩ _) (fun i e => .inr (by have e2 : i = w.heap.size := e; omega))).below (Nat.le_refl _) (fun i e => e.elim), by rw [← hW2, heap_setCell_at HW.out, bits_xor_u8]⟩)
  go_wp2_with (first
    | (go_at_call 54; refine HR.out.mono ?_; rintro e w' ⟨A, c, rfl, hl, _, rfl⟩; have HLI := Lib.hid hl; obtain ⟨g, o, e, _, q0⟩ := lies_s hl HY.out; subst e; clear hl)
    | (go_at_call 57; refine HS8.out.mono ?_; rintro e w8 ⟨rfl, h8, hf8⟩)
    | (at_builtin; obtain ⟨W2, hW2⟩ : ∃ W2, W1.setCell ⟨w.heap.size, t, none⟩ (.int .u8 (bits .xor .u8 (v.toNat : Int) (z.toNat : Int))) = W2 := ⟨_, rfl⟩; rw [hW2]; obtain ⟨hb2, h2g⟩ := HW2.out W2 hW2; refine wp_copy rfl _ _ rfl P m HP.out.2 rfl _ c rfl (HLI.out.below hb2 (Nat.le_refl _)) (by omega) ?_; intro A7 c7 w7 hr7 hb7; obtain ⟨g7, e7, hg7, hgl7, ⟨v7, q7⟩, f7, hrow7, hfr7⟩ := row_put (x := x) hr7 HP.out.2 HJ.out; subst e7; have kt := text_of (c := cc) ((hb7.block _ (lt_of_heap h2g)).trans h2g) HTS.out HC.out; rw [show y.size = 128 from HY8.out, ← HFL.out] at kt; have HS8 := Lib.hid (HS.out _ _ _ _ (P.set j x) ((hb2.trans (hb7.mono hb2.size)).trans (hfr7.below (hb2.trans (hb7.mono hb2.size)).size (fun i e => by subst e; exact Nat.le_trans hb2.size hg7))) (by rw [List.length_set]; exact HP.out.2) (row_base hrow7 hb2.size)); clear hr7 hb7 hrow7 hfr7 hg7 hgl7 hW2 hb2 h2g))
  go_ret
  exact ⟨by rw [HV.out]; rfl, by rw [HV.out]; exact h8, hf8⟩
end
end Go.Proofs.Ytnpdnnaemfdinaa.F
