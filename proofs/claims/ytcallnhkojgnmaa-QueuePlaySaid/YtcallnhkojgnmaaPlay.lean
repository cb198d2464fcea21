/- QueuePlay, walked: whoever joins, goes, or waits, each answer is the document's. Conditions: the list of turns lies readable. -/
import Derived.Deep.RegionHeld3
import Derived.Deep.CutBlock
import Derived.Test.YtcallnhkojgnmaaPlc
namespace Go.Proofs.Ytcallnhkojgnmaa.Q
open Go.RowKit Go.Sort Go.Shelf
open Go.Proofs.Ytcallnhkojgnmaa.Ma
set_option linter.unusedVariables false
set_option linter.unusedSimpArgs false
theorem lies5 {w : World} {A : Option Addr} {xs : List Tn} (h : Lies encT 5 w A xs) {j : Nat} {kd x1 x2 x3 x4 : Int} (hx : xs[j]? = some (kd, x1, x2, x3, x4)) :
    ∃ b o, A = some ⟨b, o, none⟩ ∧ b < w.heap.size ∧ w.cell? ⟨b, o + j * 5, none⟩ = some (.int .u8 kd) ∧ w.cell? ⟨b, o + j * 5 + 1, none⟩ = some (.int .i64 x1) ∧ w.cell? ⟨b, o + j * 5 + 2, none⟩ = some (.int .i64 x2) ∧ w.cell? ⟨b, o + j * 5 + 3, none⟩ = some (.int .i64 x3) ∧ w.cell? ⟨b, o + j * 5 + 4, none⟩ = some (.int .i64 x4) := by
  obtain ⟨b, o, e, hb, hc⟩ := h j _ hx
  exact ⟨b, o, e, hb, hc 0 _ rfl, hc 1 _ rfl, hc 2 _ rfl, hc 3 _ rfl, hc 4 _ rfl⟩
theorem u8_in (n : Int) (h : 0 ≤ n ∧ n ≤ 255) : IntKind.u8.wrap n = n := by
  simp only [IntKind.wrap, IntKind.bits, IntKind.signed]
  simp
  exact Int.emod_eq_of_lt h.1 (by omega)
theorem same_nil (A1 A2 : Option Addr) (c1 c2 : Nat) (w : World) : Calls Try.prog 20 #[.slice A1 0 c1, .slice A2 0 c2] w fun e w' => e = .returned (.bool true) ∧ ∃ m, w' = w.drewN m :=
  same_at A1 A2 c1 c2 [] w (fun j x hx => by simp at hx) (fun j x hx => by simp at hx) (by simp)
attribute [local irreducible] wpQuiet
set_option maxRecDepth 100000 in
set_option maxHeartbeats 8000000 in
theorem play_at (A : Option Addr) (len cap : Nat) (xs : List Tn) (w : World) (hl : len ≤ 200) (hlen : xs.length = len) (hL : Lies encT 5 w A xs) (hk8 : ∀ t ∈ xs, 0 ≤ t.1 ∧ t.1 ≤ 255) : Calls Try.prog 3 #[.slice A len cap] w fun e w' => e = .returned (.bool true) ∧ Below w.heap.size w w' := by
  have h3 : ¬ (200 : Int) < len := by omega
  have HL := Lib.hid hL
  have HLen := Lib.hid hlen
  have HK8 := Lib.hid hk8
  clear hL hlen hk8
  go_enter Try.func3, Try.ntmps3
  go_wp2_with fail
  refine (new_step w w (Below.refl _ _)).mono ?_
  rintro e w1 ⟨rfl, h1, _⟩
  obtain ⟨b, hb⟩ : ∃ b, w.heap.size = b := ⟨_, rfl⟩
  have HBB := Lib.hid hb
  rw [hb] at h1 ⊢
  clear hb
  have H1 := Lib.hid h1
  clear h1
  go_wp2_with fail
  have h29 := heap_alloc_new w1 (Obj.cells #[Value.slice none 0 0] 29 (0, 0))
  have hB29 : Below w1.heap.size w1 (w1.alloc (Obj.cells #[Value.slice none 0 0] 29)) := (Below.refl _ _).alloc (Nat.le_refl _) _
  have hs2 := H1.out.other hB29
  have hrb0 := H1.out.below.size
  generalize w1.alloc (Obj.cells #[Value.slice none 0 0] 29) = W1 at h29 hs2 ⊢
  generalize w1.heap.size = rb at h29 hrb0 ⊢
  have H2 := Lib.hid hs2
  have R2 := Lib.hid (show RefAt w.heap.size W1 rb [] (.slice none 0 0) from ⟨h29, World.ownsRow_nil _ _ _ _⟩)
  have HRB := Lib.hid hrb0
  clear h29 hB29 hs2 hrb0 H1
  go_loopw [5] (fun i wr => ∃ (k : Nat) (L : List It) (v rv : Value), k ≤ len ∧ i = .int .i64 k ∧ St w wr b L v ∧ RefAt w.heap.size wr rb L rv) (fun i _ => len - (intOf i).toNat)
  case atStart => exact ⟨0, [], _, _, by omega, rfl, H2.out, R2.out⟩
  case round =>
    obtain ⟨k, L, v, rv, hk, rfl, hS, hR⟩ := hrel
    have HS := Lib.hid hS
    have HR := Lib.hid hR
    clear hS hR
    by_cases hlt : k < len
    · obtain ⟨⟨kd, x1, x2, x3, x4⟩, hx⟩ : ∃ p, xs[k]? = some p := ⟨xs[k]'(by have := HLen.out; omega), List.getElem?_eq_getElem _⟩
      have hkd := HK8.out _ (List.mem_of_getElem? hx)
      dsimp only at hkd
      obtain ⟨bk, o, rfl, hbk, q0, q1, q2, q3, q4⟩ := lies5 (HL.out.below HS.out.below (Nat.le_refl _)) hx
      have hkl : (k : Int) < (len : Int) := by omega
      obtain ⟨d, hd⟩ : ∃ d, kd % 6 = d := ⟨_, rfl⟩
      have hd0 : 0 ≤ d ∧ d < 6 := by omega
      have hdt : kd.tmod 6 = d := by rw [← hd]; exact Int.tmod_eq_emod_of_nonneg hkd.1
      have hdw : IntKind.u8.wrap d = d := u8_in _ ⟨by omega, by omega⟩
      have HD := Lib.hid hd
      have HKd := Lib.hid hkd
      clear hd hx hbk hkd
      go_upto_block 2 with (fail)
      have h33 := heap_alloc_new wr (Obj.cells #[.int .u8 kd, .int .i64 x1, .int .i64 x2, .int .i64 x3, .int .i64 x4] 33 (0, 0))
      have hB33 : Below wr.heap.size wr (wr.alloc (Obj.cells #[.int .u8 kd, .int .i64 x1, .int .i64 x2, .int .i64 x3, .int .i64 x4] 33)) := (Below.refl _ _).alloc (Nat.le_refl _) _
      have hs3 := HS.out.other hB33
      have hr3 := HR.out.below hB33
      have hok := HS.out.ok
      generalize wr.alloc (Obj.cells #[.int .u8 kd, .int .i64 x1, .int .i64 x2, .int .i64 x3, .int .i64 x4] 33) = W at h33 hs3 hr3 ⊢
      generalize wr.heap.size = bx at h33 ⊢
      have HT := Lib.hid (show Two w W b rb bx (kd, x1, x2, x3, x4) L L v rv from ⟨hs3, hr3, hok, HRB.out, h33⟩)
      clear h33 hB33 hs3 hr3 hok q0 q1 q2 q3 q4
      go_cut [7, 8] from 34 to 115 (fun s t wx => ∃ (c : Int) (L' : List It) (v' rv' : Value), s = .int .i64 c ∧ t = .int .i64 c ∧ Two w wx b rb bx (kd, x1, x2, x3, x4) L' L' v' rv')
      case first =>
        obtain ⟨e1, e2, e3', e4'⟩ := HT.out.cells
        have hcase : (d = 0 ∨ d = 1 ∨ d = 2) ∨ d = 3 ∨ (d = 4 ∨ d = 5) := by omega
        clear hd0 hdw
        rcases hcase with h | rfl | h
        · rcases h with rfl | rfl | rfl
          all_goals
            go_wp2
            obtain ⟨c, Lz, hv⟩ : ∃ c Lz, pushF L (x1, x2, x3, x4) = (c, Lz) := ⟨_, _, rfl⟩
            have HV := Lib.hid hv
            clear hv
            go_region_held3 (fun w' => w'.cell? ⟨bx, 1, none⟩ = some (.int .i64 x1) ∧ w'.cell? ⟨bx, 2, none⟩ = some (.int .i64 x2) ∧ w'.cell? ⟨bx, 3, none⟩ = some (.int .i64 x3) ∧ w'.cell? ⟨bx, 4, none⟩ = some (.int .i64 x4))
              (first | go_keep | exact T4.cells | exact T3.cells)
              ((first
                | (go_at_call 12; refine (two_rpush T3 HV.out).mono ?_; rintro e w4 ⟨rfl, rv4, T4⟩)
                | (go_at_call 11; refine (two_push (HT.out.drewN 1) HV.out).mono ?_; rintro e w3 ⟨rfl, v3, T3⟩)))
            go_wp2
            go_meet
            exact ⟨c, Lz, _, _, rfl, rfl, T4⟩
        · go_wp2
          obtain ⟨c, Lz, hv⟩ : ∃ c Lz, remF L x1 = (c, Lz) := ⟨_, _, rfl⟩
          have HV := Lib.hid hv
          clear hv
          go_region_held3 (fun w' => w'.cell? ⟨bx, 1, none⟩ = some (.int .i64 x1))
            (first | go_keep | exact T4.cells.1 | exact T3.cells.1)
            ((first
              | (go_at_call 14; refine (two_rrem T3 HV.out).mono ?_; rintro e w4 ⟨rfl, rv4, T4⟩)
              | (go_at_call 13; refine (two_rem (HT.out.drewN 1) HV.out).mono ?_; rintro e w3 ⟨rfl, v3, T3⟩)))
          go_wp2
          go_meet
          exact ⟨c, Lz, _, _, rfl, rfl, T4⟩
        · rcases h with rfl | rfl
          all_goals
            obtain ⟨Lz, hv⟩ : ∃ Lz, ageF L = Lz := ⟨_, rfl⟩
            have HV := Lib.hid hv
            clear hv
            go_wp2_with (first
              | (go_at_call 16; refine (two_rage T3 HV.out).mono ?_; rintro e w4 ⟨rfl, T4⟩)
              | (go_at_call 15; refine (two_age HT.out HV.out).mono ?_; rintro e w3 ⟨rfl, T3⟩))
            go_meet
            exact ⟨0, Lz, _, _, rfl, rfl, T4⟩
      case rest =>
        obtain ⟨c, L', v', rv', rfl, rfl, hT⟩ := hcut
        have T5 := Lib.hid hT
        have L8 := hT.q.ok.len
        clear hT HT
        by_cases h0 : L' = []
        · subst h0
          clear L8
          go_wp2_with (first
            | (go_at_call 19; refine (head_step0 T7.out.q).mono ?_; rintro e w8 ⟨rfl, _, hb8⟩; have B8 := Lib.hid hb8; clear hb8)
            | (go_at_call 18; refine (two_ritems0 T6.out).mono ?_; rintro e w7 ⟨Aj, cj, rfl, hT7, hb7⟩; have T7 := Lib.hid hT7; have B7 := Lib.hid hb7; clear hT7 hb7)
            | (go_at_call 17; refine (two_items0 T5.out).mono ?_; rintro e w6 ⟨Ai, ci, rfl, hT6, hb6⟩; have T6 := Lib.hid hT6; have B6 := Lib.hid hb6; clear hT6 hb6))
          have h37 := heap_alloc_new w8 (Obj.cells #[.int .i64 0, .int .i64 0, .int .i64 0, .int .i64 0] 31 (0, 0))
          have hB37 : Below w8.heap.size w8 (w8.alloc (Obj.cells #[.int .i64 0, .int .i64 0, .int .i64 0, .int .i64 0] 31)) := (Below.refl _ _).alloc (Nat.le_refl _) _
          generalize w8.alloc (Obj.cells #[.int .i64 0, .int .i64 0, .int .i64 0, .int .i64 0] 31) = W8 at h37 hB37 ⊢
          have hb8 := (B7.out.trans (B8.out.mono B7.out.size)).trans (hB37.mono (by have := B7.out.size; have := B8.out.size; omega))
          have B8c := Lib.hid (B6.out.trans (hb8.mono B6.out.size))
          have d0 := cell_of_heap (i := 0) h37 rfl
          have d1 := cell_of_heap (i := 1) h37 rfl
          have d2 := cell_of_heap (i := 2) h37 rfl
          have d3 := cell_of_heap (i := 3) h37 rfl
          generalize w8.heap.size = bh at d0 d1 d2 d3 ⊢
          have neq := neq31 0 0 0 0 0 0 0 0
          rw [show decide ((0 : Int) = 0 ∧ (0 : Int) = 0 ∧ (0 : Int) = 0 ∧ (0 : Int) = 0) = true by simp] at neq
          clear h37 hB37 hb8
          go_quiet ((go_at_call 20; exact Calls.quiet_of (same_nil _ _ _ _ _)))
          clear neq d0 d1 d2 d3
          go_wp2
          go_loopw [13] (fun i wy => i = .int .i64 0 ∧ Below wc.heap.size wc wy) (fun i _ => 0)
          case atStart => exact ⟨rfl, B8c.out.trans (below_drewN _ _ _)⟩
          case round =>
            obtain ⟨rfl, hbK⟩ := hrel
            have T9 := Lib.hid (T5.out.other hbK)
            clear hbK
            go_wp2
            go_roundw
            case rel => exact ⟨k + 1, [], _, _, by omega, by go_num, T9.out.q, T9.out.r⟩
            case measure => simp [intOf]; omega
        · have hlen0 : 0 < L'.length := List.length_pos_iff.2 h0
          obtain ⟨⟨m1, m2, m3, m4⟩, hmin⟩ : ∃ m, minOf L' = m := ⟨_, rfl⟩
          have HMin := Lib.hid hmin
          clear hmin h0
          go_wp2_with (first
            | (go_at_call 19; refine (head_step T7.out.q hlen0 HMin.out).mono ?_; rintro e w8 ⟨rfl, _, hb8⟩; have B8 := Lib.hid hb8; have T8 := Lib.hid (T7.out.other hb8); clear hb8)
            | (go_at_call 18; refine (two_ritems T6.out HNp.out HNo.out).mono ?_; rintro e w7 ⟨vj, rfl, hrj, hT7, hb7⟩; have T7 := Lib.hid hT7; have RJ := Lib.hid hrj; have B7 := Lib.hid hb7; clear hT7 hrj hb7)
            | (go_at_call 17; refine (two_items T5.out).mono ?_; rintro e w6 ⟨vi, N, rfl, hp, ho, hri, hT6, hb6⟩; have T6 := Lib.hid hT6; have HNp := Lib.hid hp; have HNo := Lib.hid ho; have RI := Lib.hid hri; have B6 := Lib.hid hb6; clear hp ho hri hT6 hb6))
          have hnl : N.length = L'.length := HNp.out.length_eq
          obtain ⟨⟨n1, n2, n3, n4⟩, hn0⟩ : ∃ p, N[0]? = some p := ⟨N[0]'(by omega), List.getElem?_eq_getElem _⟩
          have hmn := minOf_head HNp.out HNo.out T5.out.q.ok.nodup hn0
          rw [HMin.out] at hmn
          cases hmn
          have hN8 : N.length ≤ 1000000 := by omega
          have hNp : 0 < N.length := by omega
          have hNd : decide (0 < N.length) = true := by simpa using hNp
          have hNi : (0 : Int) < (N.length : Int) := by omega
          obtain ⟨Ai, ci, rfl, _, _⟩ := row_open enc4_len RI.out
          obtain ⟨Aj, cj, rfl, _, _⟩ := row_open enc4_len RJ.out
          have h37 := heap_alloc_new w8 (Obj.cells #[.int .i64 m1, .int .i64 m2, .int .i64 m3, .int .i64 m4] 31 (0, 0))
          have hB37 : Below w8.heap.size w8 (w8.alloc (Obj.cells #[.int .i64 m1, .int .i64 m2, .int .i64 m3, .int .i64 m4] 31)) := (Below.refl _ _).alloc (Nat.le_refl _) _
          have hli := (((row_lies enc4_len RI.out).below B7.out (Nat.le_refl _)).below B8.out (Nat.le_refl _)).below hB37 (Nat.le_refl _)
          have hlj := ((row_lies enc4_len RJ.out).below B8.out (Nat.le_refl _)).below hB37 (Nat.le_refl _)
          generalize w8.alloc (Obj.cells #[.int .i64 m1, .int .i64 m2, .int .i64 m3, .int .i64 m4] 31) = W8 at h37 hB37 hli hlj ⊢
          have HLi := Lib.hid hli
          have HLj := Lib.hid hlj
          have hb8 := (B7.out.trans (B8.out.mono B7.out.size)).trans (hB37.mono (by have := B7.out.size; have := B8.out.size; omega))
          have R8 := Lib.hid ((Fr.of_below hb8).row RI.out (fun _ _ e => e))
          have B8c := Lib.hid (B6.out.trans (hb8.mono B6.out.size))
          clear hb8
          have d0 := cell_of_heap (i := 0) h37 rfl
          have d1 := cell_of_heap (i := 1) h37 rfl
          have d2 := cell_of_heap (i := 2) h37 rfl
          have d3 := cell_of_heap (i := 3) h37 rfl
          generalize w8.heap.size = bh at d0 d1 d2 d3 ⊢
          obtain ⟨gj, oj, rfl, _, p0, p1, p2, p3⟩ := lies4 hlj hn0
          simp only [Nat.zero_mul, Nat.add_zero] at p0 p1 p2 p3
          have neq := neq37 m1 m2 m3 m4 m1 m2 m3 m4
          rw [show decide (m1 = m1 ∧ m2 = m2 ∧ m3 = m3 ∧ m4 = m4) = true by simp] at neq
          clear h37 hB37 hli hlj hnl hn0 hlen0
          go_quiet ((go_at_call 20; exact Calls.quiet_of (same_at _ _ _ _ N _ (HLi.out.drewN _) (HLj.out.drewN _) hN8)))
          clear neq d0 d1 d2 d3 p0 p1 p2 p3 hNp hNd hNi
          go_wp2
          go_loopw [13] (fun i wy => ∃ (j : Nat) (K : List It), j ≤ N.length ∧ i = .int .i64 j ∧ K.length = N.length ∧ wy.ownsRow wc.heap.size 31 4 (.slice Ai N.length ci) K.length (cellsK enc4 K) ∧ Below wc.heap.size wc wy) (fun i _ => N.length - (intOf i).toNat)
          case atStart => exact ⟨0, N, by omega, rfl, rfl, (Fr.drewN (fun _ => False) _ _).row R8.out (fun _ _ e => e), B8c.out.trans (below_drewN _ _ _)⟩
          case round =>
            obtain ⟨j, K, hj, rfl, hK, hrK, hbK⟩ := hrel
            have RK := Lib.hid hrK
            have BK := Lib.hid hbK
            have HK := Lib.hid hK
            by_cases hjn : j < N.length
            · obtain ⟨⟨z1, z2, z3, z4⟩, hz⟩ : ∃ p, K[j]? = some p := ⟨K[j]'(by omega), List.getElem?_eq_getElem _⟩
              rw [← hK] at hrK
              obtain ⟨gi, c', hsl, hgB, hgi, _, _, hcell⟩ := row_own enc4_len hrK hz
              injection hsl with e1 _ e2
              subst e1 e2
              obtain ⟨p0, f0⟩ := hcell 0 _ rfl
              obtain ⟨p1, f1⟩ := hcell 1 _ rfl
              obtain ⟨p2, f2⟩ := hcell 2 _ rfl
              obtain ⟨p3, f3⟩ := hcell 3 _ rfl
              simp only [Nat.add_zero] at p0 f0
              have RS := Lib.hid (row_set4 (-9) 0 0 0 hrK hz)
              have HG := Lib.hid hgB
              have hji : (j : Int) < (N.length : Int) := by omega
              clear hrK hbK hK hz hcell hgB hgi
              go_wp2
              go_roundw
              case rel =>
                refine ⟨j + 1, K.set j (-9, 0, 0, 0), by omega, by go_num, by rw [List.length_set]; exact HK.out, ?_, ?_⟩
                · rw [List.length_set, ← HK.out]; exact RS.out
                · exact below_set4 BK.out (Nat.le_refl _) HG.out
              case measure => simp [intOf]; omega
            · obtain rfl : j = N.length := by omega
              clear hrK hbK hK
              have T9 := Lib.hid (T5.out.other BK.out)
              go_wp2
              go_roundw
              case rel => exact ⟨k + 1, L', _, _, by omega, by go_num, T9.out.q, T9.out.r⟩
              case measure => simp [intOf]; omega
    · obtain rfl : k = len := by omega
      go_wp2_with (go_at_call 9; refine (waits_calls _).mono ?_; rintro e w9 ⟨rfl, hb9⟩; have HB9 := Lib.hid hb9; clear hb9)
      go_ret
      exact ⟨rfl, HS.out.below.trans (HB9.out.mono HS.out.below.size)⟩
end Go.Proofs.Ytcallnhkojgnmaa.Q
