/- ScanPlay, walked at every scan that may be. Conditions: the list of moves lies readable, its numbers are of their kind. -/
import Derived.Deep.CutBlock
import Derived.Test.YtfmicncpaaioaaaPlay
namespace Go.Proofs.Ytfmicncpaaioaaa.Sc
open Go.RowKit Go.Maps Go.Sort Go.Shelf
open Go.Proofs.Ytfmicncpaaioaaa.Ma
set_option linter.unusedVariables false
set_option linter.unusedSimpArgs false
set_option maxRecDepth 100000 in
set_option maxHeartbeats 8000000 in
theorem play_at (n : Int) (A : Option Addr) (len cap : Nat) (xs : List (Int × Int)) (w : World) (h0 : 1 ≤ n) (h1 : n ≤ 16) (hl : len ≤ 300) (hd : IsMoves w A len xs) : Calls Try.prog 3 #[.int .i64 n, .slice A len cap] w fun e w' => e = .returned (.bool true) ∧ Below w.heap.size w w' := by
  have h2 : ¬ (300 : Int) < len := by omega
  have HD := Lib.hid hd
  clear hd
  go_enter Try.func3, Try.ntmps3
  go_wp2_with (first | (go_at_call 9; refine (new_step w w n h0 h1 (Below.refl _ _)).mono ?_; rintro e w1 ⟨b, bm, rfl, s1, hb1, _, _⟩) | (go_at_call 10; refine (rnew_at n w1 h0 h1 w.heap.size).mono ?_; rintro e w2 ⟨rfl, r2, hb2⟩; have s2 := s1.other hb2; have hrb := s1.below.size))
  generalize w1.heap.size = rb at r2 hrb ⊢
  go_loopw [9] (fun i wr => ∃ (k : Nat) (a : Int) (L : List Ent) (v : Value), k ≤ len ∧ i = .int .i64 k ∧ St w wr b bm n a L ∧ RefAt w.heap.size wr rb n a L v) (fun i _ => len - (intOf i).toNat)
  case atStart => exact ⟨0, -1, [], _, by omega, rfl, s2, r2⟩
  case round =>
    obtain ⟨k, a, L, v, hk, rfl, hS, hR⟩ := hrel
    by_cases hlt : k < len
    · obtain ⟨x, hx⟩ : ∃ x, xs[k]? = some x := ⟨xs[k]'(by have := HD.out.1; omega), List.getElem?_eq_getElem _⟩
      obtain ⟨bk, o, rfl, hbk, c0, c1, wx, wn⟩ := HD.out.2 k x hx
      obtain ⟨kd, id⟩ := x
      dsimp only at c0 c1 wx wn
      have hkd := u8_wf wx
      have e0 := (hS.below.cell (p := ⟨bk, o + k * 2, none⟩) hbk).trans c0
      have e1 := (hS.below.cell (p := ⟨bk, o + k * 2 + 1, none⟩) hbk).trans c1
      clear c0 c1
      obtain ⟨d, hd⟩ : ∃ d, kd % 9 = d := ⟨_, rfl⟩
      have hd0 : 0 ≤ d ∧ d < 9 := by omega
      have hdt : kd.tmod 9 = d := by rw [← hd]; exact Int.tmod_eq_emod_of_nonneg hkd.1
      have hdw : IntKind.u8.wrap d = d := u8_in _ ⟨by omega, by omega⟩
      clear hd
      have HSt := Lib.hid hS
      have HRf := Lib.hid hR
      have hap := hS.ref hR
      have lb := lt_of_heap hS.lies.1
      have lr := lt_of_heap hR.1
      have AP := Lib.hid hap
      have HO := Lib.hid hS.ok
      have hbk2 : bk < wr.heap.size := by have := hS.below.size; omega
      have nb : bk ≠ b := by have := hS.hb; omega
      have nm : bk ≠ bm := by have := hS.hm; omega
      have nr : bk ≠ rb := by omega
      have nv : ∀ g, v.ownBlock = some g → bk ≠ g := fun g hg e => by have := (hR.2.lt g hg).1; omega
      have NV := Lib.hid nv
      clear hap hS hR hx nv
      go_upto_block 2 with (fail)
      go_cut [10, 11, 12, 13] from 42 to 171 (fun s t x y wx => ∃ (c i a' : Int) (L' : List Ent) (v' : Value), s = .int .i64 c ∧ t = .int .i64 c ∧ x = .int .i64 i ∧ y = .int .i64 i ∧ St w wx b bm n a' L' ∧ RefAt w.heap.size wx rb n a' L' v')
      case first =>
        have hcase : (d = 0 ∨ d = 1) ∨ d = 2 ∨ (d = 3 ∨ d = 4 ∨ d = 5) ∨ (d = 6 ∨ d = 7 ∨ d = 8) := by omega
        clear hd0 hdw
        rcases hcase with h | rfl | h | h
        · rcases h with rfl | rfl
          all_goals
            go_wp2
            obtain ⟨c, Lz, hv⟩ : ∃ c Lz, attF L id = (c, Lz) := ⟨_, _, rfl⟩
            have HV := Lib.hid hv
            clear hv
            go_region_held3 (fun w' => w'.cell? ⟨bk, o + k * 2 + 1, none⟩ = some (.int .i64 id))
              (first | go_keep | exact e4 | exact e3)
              ((first
                | (go_at_call 11; refine (att_step (HSt.out.drewN 1) HV.out wn).mono ?_; rintro e w3 ⟨rfl, s3, f3⟩; have e3 : w3.cell? ⟨bk, o + k * 2 + 1, none⟩ = some (.int .i64 id) := f3.cell (w := wr.drewN 1) e1 hbk2 (fun e => by rcases e with e | e; exact nb e; exact nm e); have r3 := (HRf.out.drewN 1).kept f3 (fun e => by rcases e with e | e; exact AP.out.1 e; exact AP.out.2.1 e) (fun g hg e => by rcases e with e | e; exact (AP.out.2.2 _ hg).1 e; exact (AP.out.2.2 _ hg).2 e))
                | (go_at_call 12; refine (ratt_step r3 HV.out s3.below.size HO.out).mono ?_; rintro e w4 ⟨rfl, v4, r4, f4⟩; have e4 : w4.cell? ⟨bk, o + k * 2 + 1, none⟩ = some (.int .i64 id) := f4.cell e3 (Nat.lt_of_lt_of_le hbk2 f3.size) (fun e => nr e); have s4 := s3.turn f4 (fun e => AP.out.1 e.symm) (fun e => AP.out.2.1 e.symm) (fun k hk => by rw [hk]; exact hrb))))
            go_wp2
            go_meet
            exact ⟨c, 0, a, Lz, _, rfl, rfl, rfl, rfl, s4, r4⟩
        · go_wp2
          obtain ⟨c, Lz, hv⟩ : ∃ c Lz, detF L id = (c, Lz) := ⟨_, _, rfl⟩
          have HV := Lib.hid hv
          clear hv
          go_region_held3 (fun w' => w'.cell? ⟨bk, o + k * 2 + 1, none⟩ = some (.int .i64 id))
            (first | go_keep | exact e4 | exact e3)
            ((first
              | (go_at_call 13; refine (det_step (HSt.out.drewN 1) HV.out wn).mono ?_; rintro e w3 ⟨rfl, s3, f3⟩; have e3 : w3.cell? ⟨bk, o + k * 2 + 1, none⟩ = some (.int .i64 id) := f3.cell (w := wr.drewN 1) e1 hbk2 (fun e => by rcases e with e | e; exact nb e; exact nm e); have r3 := (HRf.out.drewN 1).kept f3 (fun e => by rcases e with e | e; exact AP.out.1 e; exact AP.out.2.1 e) (fun g hg e => by rcases e with e | e; exact (AP.out.2.2 _ hg).1 e; exact (AP.out.2.2 _ hg).2 e))
              | (go_at_call 14; refine (rdet_step r3 HV.out s3.below.size HO.out).mono ?_; rintro e w4 ⟨rfl, v4, r4, f4⟩; have e4 : w4.cell? ⟨bk, o + k * 2 + 1, none⟩ = some (.int .i64 id) := f4.cell e3 (Nat.lt_of_lt_of_le hbk2 f3.size) (fun e => nr e); have s4 := s3.turn f4 (fun e => AP.out.1 e.symm) (fun e => AP.out.2.1 e.symm) (fun k hk => by rw [hk]; exact hrb))))
          go_wp2
          go_meet
          exact ⟨c, 0, a, Lz, _, rfl, rfl, rfl, rfl, s4, r4⟩
        · rcases h with rfl | rfl | rfl
          all_goals
            go_wp2
            obtain ⟨c, Lz, hv⟩ : ∃ c Lz, serF L id = (c, Lz) := ⟨_, _, rfl⟩
            have HV := Lib.hid hv
            clear hv
            go_region_held3 (fun w' => w'.cell? ⟨bk, o + k * 2 + 1, none⟩ = some (.int .i64 id))
              (first | go_keep | exact e4 | exact e3)
              ((first
                | (go_at_call 15; refine (ser_step (HSt.out.drewN 1) HV.out wn).mono ?_; rintro e w3 ⟨rfl, s3, f3⟩; have e3 : w3.cell? ⟨bk, o + k * 2 + 1, none⟩ = some (.int .i64 id) := f3.cell (w := wr.drewN 1) e1 hbk2 (fun e => by rcases e with e | e; exact nb e; exact nm e); have r3 := (HRf.out.drewN 1).kept f3 (fun e => by rcases e with e | e; exact AP.out.1 e; exact AP.out.2.1 e) (fun g hg e => by rcases e with e | e; exact (AP.out.2.2 _ hg).1 e; exact (AP.out.2.2 _ hg).2 e))
                | (go_at_call 16; refine (rser_step r3 HV.out HO.out).mono ?_; rintro e w4 ⟨rfl, r4, f4⟩; have e4 : w4.cell? ⟨bk, o + k * 2 + 1, none⟩ = some (.int .i64 id) := f4.cell e3 (Nat.lt_of_lt_of_le hbk2 f3.size) (fun e => NV.out _ e rfl); have s4 := s3.turn f4 (fun e => (AP.out.2.2 _ e).1 rfl) (fun e => (AP.out.2.2 _ e).2 rfl) (fun k hk => (r3.2.lt _ hk).1))))
            go_wp2
            go_meet
            exact ⟨c, 0, a, Lz, _, rfl, rfl, rfl, rfl, s4, r4⟩
        · rcases h with rfl | rfl | rfl
          all_goals
            obtain ⟨i, c, a', Lz, hv⟩ : ∃ i c a' Lz, advF n a L = ((i, c), a', Lz) := ⟨_, _, _, _, rfl⟩
            have HV := Lib.hid hv
            clear hv
            go_wp2_with (first
              | (go_at_call 17; refine (adv_step HSt.out HV.out).mono ?_; rintro e w3 ⟨rfl, s3, f3⟩; have r3 := HRf.out.kept f3 (fun e => by rcases e with e | e; exact AP.out.1 e; exact AP.out.2.1 e) (fun g hg e => by rcases e with e | e; exact (AP.out.2.2 _ hg).1 e; exact (AP.out.2.2 _ hg).2 e))
              | (go_at_call 18; refine (radv_step r3 HV.out HO.out HSt.out.n0 HSt.out.n1 HSt.out.a0 HSt.out.a1).mono ?_; rintro e w4 ⟨rfl, r4, f4⟩; have s4 := s3.turn f4 (fun e => by rcases e with e | e; exact AP.out.1 e.symm; exact (AP.out.2.2 _ e).1 rfl) (fun e => by rcases e with e | e; exact AP.out.2.1 e.symm; exact (AP.out.2.2 _ e).2 rfl) (fun k hk => by rcases hk with e | e; (rw [e]; exact hrb); exact (r3.2.lt _ e).1)))
            go_meet
            exact ⟨c, i, a', Lz, _, rfl, rfl, rfl, rfl, s4, r4⟩
      case rest =>
        obtain ⟨c, i, a', L', v', rfl, rfl, rfl, rfl, hS, hR⟩ := hcut
        have S4 := Lib.hid hS
        have R4 := Lib.hid hR
        have lb4 := lt_of_heap hS.lies.1
        have lm4 := hS.lies.2.lt
        have lr4 := lt_of_heap hR.1
        have lw4 := hS.below.size
        have LV4 := Lib.hid (fun g (hg : v'.ownBlock = some g) => (hR.2.lt g hg).2)
        have HOk := Lib.hid hS.ok
        obtain ⟨l5, hl5⟩ : ∃ l, idsOf true L' = l := ⟨_, rfl⟩
        obtain ⟨l6, hl6⟩ : ∃ l, idsOf false L' = l := ⟨_, rfl⟩
        have HL5 := Lib.hid hl5
        have HL6 := Lib.hid hl6
        clear hS hR hl5 hl6 e0 e1 hdt hdw hd0
        go_wp2_with fail
        refine (attd_step S4.out HL5.out).mono ?_
        rintro e w5 ⟨A5, c5, rfl, ⟨hc5, hn5⟩, hi5, s5, hb5⟩
        have I5 := Lib.hid hi5
        have B5 := Lib.hid hb5
        have T5 := Lib.hid s5
        have sz5 := hb5.size
        clear hi5 hb5 s5
        go_wp2_with fail
        refine (wait_step T5.out HL6.out).mono ?_
        rintro e w6 ⟨A6, c6, rfl, ⟨hc6, hn6⟩, hi6, s6, hb6⟩
        have I6 := Lib.hid hi6
        have B6 := Lib.hid hb6
        have T6 := Lib.hid s6
        have sz6 := hb6.size
        have R6 := Lib.hid ((R4.out.kept (Fr.of_below B5.out) (fun e => e) (fun _ _ e => e)).kept (Fr.of_below hb6) (fun e => e) (fun _ _ e => e))
        have J5 := Lib.hid (I5.out.below hb6 (Nat.le_refl _))
        have y1 := R6.out.c1
        have lr6 := lt_of_heap R6.out.1
        clear hi6 hb6 s6
        go_wp2
        go_region_held3 (fun w' => w'.cell? ⟨rb, 1, none⟩ = some (.int .i64 a'))
          (first | go_keep | exact y10 | exact y9 | exact y8 | exact y7)
          ((first
            | (go_at_call 22; refine (ints_same k9 hi9 hn6).mono ?_; rintro e w10 ⟨rfl, m10, hw10⟩; have r10 := r9.drewN m10; rw [← hw10] at r10; have k10 := k9.drewN m10; rw [← hw10] at k10; have t10 := t9.drewN m10; rw [← hw10] at t10; have j10 := j9.drewN m10; rw [← hw10] at j10; have y10 : w10.cell? ⟨rb, 1, none⟩ = some (.int .i64 a') := r10.c1; clear hw10)
            | (go_at_call 23; refine (rids_step (wt := true) r8 HOk.out HL6.out).mono ?_; rintro e w9 ⟨A9, c9, rfl, ⟨hc9, _⟩, hi9, hb9⟩; have r9 := r8.kept (Fr.of_below hb9) (fun e => e) (fun _ _ e => e); have y9 := r9.c1; have k9 := k8.below hb9 (Nat.le_refl _); have j9 := j8.below hb9 (Nat.le_refl _); have t9 := t8.other hb9)
            | (go_at_call 22; refine (ints_same j7 hi7 hn5).mono ?_; rintro e w8 ⟨rfl, m8, hw8⟩; have r8 := r7.drewN m8; rw [← hw8] at r8; have k8 := k7.drewN m8; rw [← hw8] at k8; have t8 := t7.drewN m8; rw [← hw8] at t8; have j8 := j7.drewN m8; rw [← hw8] at j8; have HW8 := Lib.hid hw8; clear hw8; have y8 : w8.cell? ⟨rb, 1, none⟩ = some (.int .i64 a') := r8.c1)
            | (go_at_call 23; refine (rids_step (wt := false) (R6.out.drewN 1) HOk.out HL5.out).mono ?_; rintro e w7 ⟨A7, c7, rfl, ⟨hc7, _⟩, hi7, hb7⟩; have y7 : w7.cell? ⟨rb, 1, none⟩ = some (.int .i64 a') := (hb7.cell (p := ⟨rb, 1, none⟩) lr6).trans y1; have r7 := (R6.out.drewN 1).kept (Fr.of_below hb7) (fun e => e) (fun _ _ e => e); have j7 := (J5.out.drewN 1).below hb7 (Nat.le_refl _); have k7 := (I6.out.drewN 1).below hb7 (Nat.le_refl _); have t7 := (T6.out.drewN 1).other hb7)
            | (go_at_call 21; refine (at_step (T6.out.drewN 1)).mono ?_; rintro e w' ⟨rfl, rfl⟩)))
        have V5 := Lib.hid j10.wr
        have V6 := Lib.hid (k10.wr.mono sz5)
        have T10 := Lib.hid t10
        have R10 := Lib.hid r10
        clear y10 y9 y8 y7 y1 r10 k10 t10 j10 r9 k9 j9 t9 r8 k8 t8 j8 r7 j7 k7 t7 hi7 hi9 hb7 hb9 J5 I5 I6
        go_wp2
        go_loopw [16] (fun i wy => ∃ j : Nat, j ≤ l5.length ∧ i = .int .i64 j ∧ St w wy b bm n a' L' ∧ RefAt w.heap.size wy rb n a' L' v' ∧ Wr wy wc.heap.size A5 l5.length ∧ Wr wy wc.heap.size A6 l6.length) (fun i _ => l5.length - (intOf i).toNat)
        case atStart => exact ⟨0, by omega, rfl, T10.out, R10.out, V5.out, V6.out⟩
        case round =>
          obtain ⟨j, hj, rfl, s11, r11, q5, q6⟩ := hrel
          have S11 := Lib.hid s11
          have R11 := Lib.hid r11
          have Q5 := Lib.hid q5
          have Q6 := Lib.hid q6
          clear s11 r11 q5 q6 T10 R10 V5 V6
          by_cases hjl : j < l5.length
          · obtain ⟨g, u, rfl, hg, hgs, q0, qf⟩ := Q5.out j hjl
            go_wp2
            go_roundw
            case rel =>
              have hfr := Fr.setCell wr ⟨g, j, none⟩ (.int .i64 (-9))
              refine ⟨j + 1, by omega, by go_num, S11.out.turn hfr (fun e => ?_) (fun e => ?_) (fun k hk => ?_), R11.out.kept hfr (fun e => ?_) (fun k hk e => ?_), Q5.out.setCell _ _, Q6.out.setCell _ _⟩
              · have e' : b = g := e
                omega
              · have e' : bm = g := e
                omega
              · have e' : k = g := hk
                omega
              · have e' : rb = g := e
                omega
              · have e' : k = g := e
                have := LV4.out k hk
                omega
            case measure => simp [intOf]; omega
          · obtain rfl : j = l5.length := by omega
            go_wp2
            go_loopw [17] (fun i wy => ∃ j : Nat, j ≤ l6.length ∧ i = .int .i64 j ∧ St w wy b bm n a' L' ∧ RefAt w.heap.size wy rb n a' L' v' ∧ Wr wy wc.heap.size A6 l6.length) (fun i _ => l6.length - (intOf i).toNat)
            case atStart => exact ⟨0, by omega, rfl, S11.out, R11.out, Q6.out⟩
            case round =>
              obtain ⟨j, hj, rfl, s12, r12, q6⟩ := hrel
              have S12 := Lib.hid s12
              have R12 := Lib.hid r12
              have P6 := Lib.hid q6
              clear s12 r12 q6 S11 R11 Q5 Q6
              by_cases hjl : j < l6.length
              · obtain ⟨g, u, rfl, hg, hgs, q0, qf⟩ := P6.out j hjl
                go_wp2
                go_roundw
                case rel =>
                  have hfr := Fr.setCell wr ⟨g, j, none⟩ (.int .i64 (-9))
                  refine ⟨j + 1, by omega, by go_num, S12.out.turn hfr (fun e => ?_) (fun e => ?_) (fun k hk => ?_), R12.out.kept hfr (fun e => ?_) (fun k hk e => ?_), P6.out.setCell _ _⟩
                  · have e' : b = g := e
                    omega
                  · have e' : bm = g := e
                    omega
                  · have e' : k = g := hk
                    omega
                  · have e' : rb = g := e
                    omega
                  · have e' : k = g := e
                    have := LV4.out k hk
                    omega
                case measure => simp [intOf]; omega
              · obtain rfl : j = l6.length := by omega
                go_wp2
                go_roundw
                case rel => exact ⟨k + 1, a', L', v', by omega, by go_num, S12.out, R12.out⟩
                case measure => simp [intOf]; omega
    · obtain rfl : k = len := by omega
      go_wp2_with (go_at_call 8; refine (rides_calls _).mono ?_; rintro e w2 ⟨rfl, ha⟩)
      go_ret
      exact ⟨rfl, hS.below.trans (ha.mono hS.below.size)⟩
end Go.Proofs.Ytfmicncpaaioaaa.Sc
