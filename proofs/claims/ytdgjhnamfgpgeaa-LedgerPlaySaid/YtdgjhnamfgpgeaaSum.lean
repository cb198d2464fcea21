/- LedgerSum, walked: what all have together is what Used says, and is never above the total. Conditions: the list of deeds lies readable, its numbers are of their kind. -/
import Derived.IntWalk
import Derived.Test.YtdgjhnamfgpgeaaAdds
namespace Go.Proofs.Ytdgjhnamfgpgeaa.Led
open Go.RowKit Go.Maps
open Go.Proofs.Ytdgjhnamfgpgeaa.Ma
set_option linter.unusedVariables false
set_option linter.unusedSimpArgs false
theorem bdrew' {B : Nat} {a w : World} (n : Nat) (h : Below B a w) : Below B a (w.drewN n) := ⟨h.os, h.tape, h.output, h.size, h.block⟩
theorem St.drewN {W0 w : World} {b bm : Nat} {total : Int} {L : List Ent} (n : Nat) (h : St W0 w b bm total L) : St W0 (w.drewN n) b bm total L := ⟨h.at_, h.ok, h.t0, h.t1, h.hb, h.hm, bdrew' n h.below⟩
/-- A deed: who, how much, back or not. -/
structure Deed where
  id : Int
  need : Int
  back : Bool
def IsDeeds (w : World) (A : Option Addr) (len : Nat) (xs : List Deed) : Prop :=
  xs.length = len ∧ ∀ k x, xs[k]? = some x → ∃ bk o, A = some ⟨bk, o, none⟩ ∧ bk < w.heap.size ∧ w.cell? ⟨bk, o + k * 3, none⟩ = some (.int .i64 x.id) ∧ w.cell? ⟨bk, o + k * 3 + 1, none⟩ = some (.int .u64 x.need) ∧ w.cell? ⟨bk, o + k * 3 + 2, none⟩ = some (.bool x.back) ∧ I64 x.id ∧ U64 x.need
theorem ids_cells {w : World} {base : Nat} {v : Value} {L : List Ent} (h : w.ownsRow base 3 1 v L.length ((L.map Prod.fst).map encZ)) :
    ∃ A c, v = .slice A L.length c ∧ L.length ≤ c ∧ L.length ≤ 9223372036854775807 ∧ ∀ j p, L[j]? = some p → ∃ g, A = some ⟨g, 0, none⟩ ∧ base ≤ g ∧ g < w.heap.size ∧ w.cell? ⟨g, j, none⟩ = some (.int .i64 p.1) := by
  rcases h.2 with ⟨rfl, hn⟩ | ⟨g, cap, cur, rfl, hb, hg, hc, hm, hcs, hcur⟩
  · refine ⟨none, 0, by rw [hn], by omega, by omega, fun j p hp => ?_⟩
    have := (List.getElem?_eq_some_iff.1 hp).1
    omega
  · refine ⟨_, cap, rfl, hc, by unfold maxLen at hm; omega, fun j p hp => ⟨g, rfl, hb, lt_of_heap hg, cell_of_heap hg ?_⟩⟩
    have hj := (List.getElem?_eq_some_iff.1 hp).1
    have e : (cur.toList.take (L.length * 1))[j]? = some (.int .i64 p.1) := by rw [hcur]; simp [hp]
    rw [List.getElem?_take_of_lt (by omega)] at e
    simpa using e
theorem rel_cases {total : Int} {L : List Ent} (h : Ok total L) (id : Int) : ∃ c Lz, relF L id = (c, Lz) ∧ Lz.length ≤ L.length ∧
    (((c != 0) = true ∧ (c == 0) = false ∧ (sum Lz != sum L) = false ∧ (Ma.look Lz id != Ma.look L id) = false) ∨ ((c != 0) = false ∧ (c == 0) = true ∧ (Ma.look Lz id != 0) = false ∧ (sum Lz != sum L - Ma.look L id) = false)) := by
  by_cases h1 : Ma.look L id = 0
  · exact ⟨4, L, by simp [relF, h1], Nat.le_refl _, .inl ⟨by decide, by decide, by simp, by simp⟩⟩
  · refine ⟨0, del id L, by simp [relF, h1], length_del_le _ _, .inr ⟨by decide, by decide, ?_, ?_⟩⟩
    · rw [look_del h.rising, if_pos rfl]; rfl
    · have := sum_del h.rising id
      rw [show sum L - Ma.look L id = sum (del id L) by omega]
      simp
theorem res_cases {total : Int} {L : List Ent} (h : Ok total L) (id need : Int) (hn : 0 ≤ need) : ∃ c Lz, resF total L id need = (c, Lz) ∧ Lz.length ≤ L.length + 1 ∧
    (((c != 0) = true ∧ (c == 0) = false ∧ (sum Lz != sum L) = false ∧ (Ma.look Lz id != Ma.look L id) = false) ∨ ((c != 0) = false ∧ (c == 0) = true ∧ (Ma.look Lz id != need) = false ∧ (sum Lz != sum L + Ma.look Lz id) = false ∧ Ma.look Lz id = need ∧ need ≤ total - sum L)) := by
  by_cases h1 : need = 0 ∨ 0 < Ma.look L id
  · exact ⟨2, L, resF_bad h1, by omega, .inl ⟨by decide, by decide, by simp, by simp⟩⟩
  · by_cases h2 : total - sum L < need
    · exact ⟨230, L, resF_full (by omega) (by omega) h2, by omega, .inl ⟨by decide, by decide, by simp, by simp⟩⟩
    · have hk := look_pos h.pos (show Ma.look L id ≤ 0 by omega)
      have e1 : Ma.look (ins id need (del id L)) id = need := by rw [del_out hk, look_ins h.rising hk, if_pos rfl]
      refine ⟨0, ins id need (del id L), resF_yes (by omega) (by omega) (by omega) rfl, ?_, .inr ⟨by decide, by decide, ?_, ?_, e1, by omega⟩⟩
      · rw [length_ins, del_out hk]; exact Nat.le_refl _
      · rw [e1]; simp
      · rw [e1, sum_ins, del_out hk, show sum L + need = need + sum L by omega]; simp
set_option maxRecDepth 100000 in
theorem sum_small (total : Int) (A : Option Addr) (len cap : Nat) (w : World) (hl : len ≤ 9223372036854775807) (h : total = 0 ∨ 100 < len) : Calls Try.prog 5 #[.int .u64 total, .slice A len cap] w fun e w' => e = .returned (.bool true) ∧ Below w.heap.size w w' := by
  by_cases h2 : 100 < len
  · have h3 : (100 : Int) < len := by omega
    go_enter Try.func5, Try.ntmps5
    go_wp2_with (go_at_call 7; refine (adds_calls _).mono ?_; rintro e w' ⟨rfl, hb⟩)
    go_ret
    exact ⟨rfl, hb⟩
  · have h3 : ¬ (100 : Int) < len := by omega
    obtain rfl : total = 0 := by omega
    go_enter Try.func5, Try.ntmps5
    go_wp2_with (go_at_call 7; refine (adds_calls _).mono ?_; rintro e w' ⟨rfl, hb⟩)
    go_ret
    exact ⟨rfl, hb⟩
set_option maxRecDepth 100000 in
set_option maxHeartbeats 4000000 in
theorem sum_at (total : Int) (A : Option Addr) (len cap : Nat) (xs : List Deed) (w : World) (h0 : 0 < total) (h1 : total ≤ 18446744073709551615) (hl : len ≤ 100) (hd : IsDeeds w A len xs) : Calls Try.prog 5 #[.int .u64 total, .slice A len cap] w fun e w' => e = .returned (.bool true) ∧ Below w.heap.size w w' := by
  have h2 : ¬ (100 : Int) < len := by omega
  have h3 : (total == 0) = false := by simpa using (show total ≠ 0 by omega)
  have HD := Lib.hid hd
  clear hd
  go_enter Try.func5, Try.ntmps5
  go_wp2_with (go_at_call 8; refine (new_step w w total h0 h1 (Below.refl _ _)).mono ?_; rintro e w1 ⟨b, bm, rfl, s1, _, _, _⟩)
  go_loopw [7] (fun i wr => ∃ (k : Nat) (L : List Ent), k ≤ len ∧ i = .int .i64 k ∧ St w wr b bm total L ∧ L.length ≤ k) (fun i _ => len - (intOf i).toNat)
  case atStart => exact ⟨0, [], by omega, rfl, s1, by simp⟩
  case round =>
    obtain ⟨k, L, hk, rfl, hS, hL⟩ := hrel
    by_cases hlt : k < len
    · obtain ⟨x, hx⟩ : ∃ x, xs[k]? = some x := ⟨xs[k]'(by have := HD.out.1; omega), List.getElem?_eq_getElem _⟩
      obtain ⟨bk, o, rfl, hbk, c0, c1, c2, wx, wn⟩ := HD.out.2 k x hx
      obtain ⟨id, need, back⟩ := x
      dsimp only at c0 c1 c2 wx wn
      have e0 := (hS.below.cell (p := ⟨bk, o + k * 3, none⟩) hbk).trans c0
      have e1 := (hS.below.cell (p := ⟨bk, o + k * 3 + 1, none⟩) hbk).trans c1
      have e2 := (hS.below.cell (p := ⟨bk, o + k * 3 + 2, none⟩) hbk).trans c2
      have p1 := look_le hS.ok.pos id
      have p2 := hS.ok.le
      clear c0 c1 c2
      cases back
      · obtain ⟨c, Lz, hv, hlen, hcs⟩ := res_cases hS.ok id need wn.1
        have hO := resF_ok (id := id) hS.ok wx wn.1
        rw [hv] at hO
        have p3 := look_le hO.pos id
        have p4 := hO.le
        have HV := Lib.hid hv
        have HO := Lib.hid hO
        clear hv hO
        go_wp2
        go_quiet ((first | (go_at_call 17; exact quiet_eq (used_step (hS.drewN _) rfl)) | (go_at_call 15; exact quiet_eq (held_step (hS.drewN _) rfl wx))))
        go_wp2
        refine region_tail 11 (by kernel_rfl) (by kernel_rfl) fun wd hwd => ?_
        simp only [List.take_succ_cons, List.take_zero, List.drop_succ_cons, List.drop_zero]
        have hSd : St w wd b bm total L := by rw [hwd]; exact (hS.drewN _).drewN 1
        have d0 : wd.cell? ⟨bk, o + k * 3, none⟩ = some (.int .i64 id) := by rw [hwd]; exact e0
        have d1 : wd.cell? ⟨bk, o + k * 3 + 1, none⟩ = some (.int .u64 need) := by rw [hwd]; exact e1
        clear hwd
        repeat still_step
        refine wpStill_nil ?_
        go_wp2_with (go_at_call 12; refine (res_step hSd HV.out wx wn (by omega)).mono ?_; rintro e w2 ⟨rfl, sz, _⟩)
        have f0 := (sz.below.cell (p := ⟨bk, o + k * 3, none⟩) hbk).trans ((hS.below.cell (p := ⟨bk, o + k * 3, none⟩) hbk).symm.trans e0)
        have f1 := (sz.below.cell (p := ⟨bk, o + k * 3 + 1, none⟩) hbk).trans ((hS.below.cell (p := ⟨bk, o + k * 3 + 1, none⟩) hbk).symm.trans e1)
        have f2 := (sz.below.cell (p := ⟨bk, o + k * 3 + 2, none⟩) hbk).trans ((hS.below.cell (p := ⟨bk, o + k * 3 + 2, none⟩) hbk).symm.trans e2)
        clear e0 e1 e2 d0 d1
        go_quiet ((first | (go_at_call 17; exact quiet_eq (used_step (sz.drewN _) rfl)) | (go_at_call 15; exact quiet_eq (held_step (sz.drewN _) rfl wx))))
        rcases hcs with ⟨q1, q2, q3, q4⟩ | ⟨q1, q2, q3, q4, q6, q5⟩
        · go_wp2_with (go_at_call 14; refine (ids_step (sz.drewN _) (by omega)).mono ?_; rintro e w3 ⟨v, rfl, hr, _, s3, hb3⟩; obtain ⟨A, cc, rfl, hcc, hcm, hcell⟩ := ids_cells hr; have HC := Lib.hid hcell; clear hr hcell)
          go_loopw [13, 15] (fun s i wy => ∃ j : Nat, j ≤ Lz.length ∧ s = .int .u64 (sum (Lz.take j)) ∧ i = .int .i64 j ∧ St w wy b bm total Lz ∧ Below w3.heap.size w3 wy) (fun _ i _ => Lz.length - (intOf i).toNat)
          case atStart => exact ⟨0, by omega, by simp [sum], rfl, s3, Below.refl _ _⟩
          case round =>
            obtain ⟨j, hj, rfl, rfl, s4, hb4⟩ := hrel
            by_cases hjl : j < Lz.length
            · obtain ⟨⟨x, y⟩, hx⟩ : ∃ p, Lz[j]? = some p := ⟨Lz[j], List.getElem?_eq_getElem _⟩
              obtain ⟨g, rfl, _, hg, hcx⟩ := HC.out j _ hx
              have r1 : wr.cell? ⟨g, j, none⟩ = some (.int .i64 x) := (hb4.cell (p := ⟨g, j, none⟩) hg).trans hcx
              have hmem : (x, y) ∈ Lz := List.mem_of_getElem? hx
              have r2 : 0 < y := s4.ok.pos _ hmem
              have r3 : Ma.look Lz x = y := look_mem s4.ok.rising hmem
              have r4 := sum_take_le s4.ok.pos j
              have r5 := sum_take_le s4.ok.pos (j + 1)
              have r6 := sum_take_succ hx
              have r7 : (y == 0) = false := by simpa using (show y ≠ 0 by omega)
              have r8 : ¬ (total - sum (Lz.take j) < y) := by have := s4.ok.le; simp only at r6; omega
              have r10 : decide (total - sum (Lz.take j) < y) = false := by simpa using r8
              have wxx : I64 x := s4.ok.wf _ hmem
              have t1 := s4.t1
              have t2 := s4.ok.le
              have R3 := Lib.hid r3
              have R6 := Lib.hid r6
              have hbx := Lib.hid hb4
              have r9 : sum (Lz.take j) + y ≤ total := by omega
              clear r3 r6 hcx hb4 r5
              by_cases hj0 : j = 0
              · have z2 : decide ((0 : Int) < (j : Int)) = false := by simp; omega
                have z3 : decide (0 < j) = false := by simp; omega
                clear hx hj0
                go_wp2
                go_quiet ((go_at_call 15; exact quiet_eq (held_step (s4.drewN _) R3.out wxx)))
                go_wp2_with (go_at_call 15; refine (held_step (s4.drewN _) R3.out wxx).mono ?_; rintro e w5 ⟨rfl, rfl⟩)
                go_roundw
                case rel => exact ⟨j + 1, by omega, by rw [R6.out], by go_num, s4.drewN _, bdrew' _ hbx.out⟩
                case measure => simp [intOf]; omega
              · obtain ⟨i, hi⟩ : ∃ m, j = m + 1 := ⟨j - 1, by omega⟩
                obtain ⟨⟨x', y'⟩, hx'⟩ : ∃ p, Lz[i]? = some p := ⟨Lz[i]'(by omega), List.getElem?_eq_getElem _⟩
                obtain ⟨g', eg, _, _, hcx'⟩ := HC.out i _ hx'
                cases eg
                have r1' : wr.cell? ⟨g, i, none⟩ = some (.int .i64 x') := (hbx.out.cell (p := ⟨g, i, none⟩) hg).trans hcx'
                have hlt' : x' < x := by
                  have h1 := List.pairwise_iff_getElem.1 s4.ok.rising i j (by omega) hjl (by omega)
                  rw [List.getElem?_eq_getElem hjl] at hx
                  rw [List.getElem?_eq_getElem (by omega)] at hx'
                  rw [Option.some.inj hx, Option.some.inj hx'] at h1
                  exact h1
                have z1 : decide (x ≤ x') = false := by simp; omega
                have z2 : decide ((0 : Int) < (j : Int)) = true := by simp; omega
                have z3 : decide (0 < j) = true := by simp; omega
                have z5 : (0 : Int) < (j : Int) := by omega
                have z6 : 0 < j := by omega
                have z7 : i < Lz.length := by omega
                have z4 : IntKind.i64.wrap ((j : Int) - 1) = (i : Int) := by
                  rw [show (j : Int) - 1 = (i : Int) by omega]
                  exact IntWalk.i64_in _ ⟨by omega, by omega⟩
                clear hx hx' hcx' hj0 hi
                go_wp2
                go_quiet ((go_at_call 15; exact quiet_eq (held_step (s4.drewN _) R3.out wxx)))
                go_wp2_with (go_at_call 15; refine (held_step (s4.drewN _) R3.out wxx).mono ?_; rintro e w5 ⟨rfl, rfl⟩)
                go_roundw
                case rel => exact ⟨j + 1, by omega, by rw [R6.out], by go_num, s4.drewN _, bdrew' _ hbx.out⟩
                case measure => simp [intOf]; omega
            · obtain rfl : j = Lz.length := by omega
              have hbx := Lib.hid hb4
              have q9 : (sum (Lz.take Lz.length) != sum Lz) = false := by rw [List.take_length]; simp
              clear hb4
              go_wp2
              go_roundw
              case rel => exact ⟨k + 1, Lz, by omega, by go_num, s4, by omega⟩
              case measure => simp [intOf]; omega
        · have q7 : sum L + Ma.look Lz id ≤ total := by rw [q6]; omega
          clear q6 q5
          go_wp2_with (go_at_call 14; refine (ids_step (sz.drewN _) (by omega)).mono ?_; rintro e w3 ⟨v, rfl, hr, _, s3, hb3⟩; obtain ⟨A, cc, rfl, hcc, hcm, hcell⟩ := ids_cells hr; have HC := Lib.hid hcell; clear hr hcell)
          go_loopw [13, 15] (fun s i wy => ∃ j : Nat, j ≤ Lz.length ∧ s = .int .u64 (sum (Lz.take j)) ∧ i = .int .i64 j ∧ St w wy b bm total Lz ∧ Below w3.heap.size w3 wy) (fun _ i _ => Lz.length - (intOf i).toNat)
          case atStart => exact ⟨0, by omega, by simp [sum], rfl, s3, Below.refl _ _⟩
          case round =>
            obtain ⟨j, hj, rfl, rfl, s4, hb4⟩ := hrel
            by_cases hjl : j < Lz.length
            · obtain ⟨⟨x, y⟩, hx⟩ : ∃ p, Lz[j]? = some p := ⟨Lz[j], List.getElem?_eq_getElem _⟩
              obtain ⟨g, rfl, _, hg, hcx⟩ := HC.out j _ hx
              have r1 : wr.cell? ⟨g, j, none⟩ = some (.int .i64 x) := (hb4.cell (p := ⟨g, j, none⟩) hg).trans hcx
              have hmem : (x, y) ∈ Lz := List.mem_of_getElem? hx
              have r2 : 0 < y := s4.ok.pos _ hmem
              have r3 : Ma.look Lz x = y := look_mem s4.ok.rising hmem
              have r4 := sum_take_le s4.ok.pos j
              have r5 := sum_take_le s4.ok.pos (j + 1)
              have r6 := sum_take_succ hx
              have r7 : (y == 0) = false := by simpa using (show y ≠ 0 by omega)
              have r8 : ¬ (total - sum (Lz.take j) < y) := by have := s4.ok.le; simp only at r6; omega
              have r10 : decide (total - sum (Lz.take j) < y) = false := by simpa using r8
              have wxx : I64 x := s4.ok.wf _ hmem
              have t1 := s4.t1
              have t2 := s4.ok.le
              have R3 := Lib.hid r3
              have R6 := Lib.hid r6
              have hbx := Lib.hid hb4
              have r9 : sum (Lz.take j) + y ≤ total := by omega
              clear r3 r6 hcx hb4 r5
              by_cases hj0 : j = 0
              · have z2 : decide ((0 : Int) < (j : Int)) = false := by simp; omega
                have z3 : decide (0 < j) = false := by simp; omega
                clear hx hj0
                go_wp2
                go_quiet ((go_at_call 15; exact quiet_eq (held_step (s4.drewN _) R3.out wxx)))
                go_wp2_with (go_at_call 15; refine (held_step (s4.drewN _) R3.out wxx).mono ?_; rintro e w5 ⟨rfl, rfl⟩)
                go_roundw
                case rel => exact ⟨j + 1, by omega, by rw [R6.out], by go_num, s4.drewN _, bdrew' _ hbx.out⟩
                case measure => simp [intOf]; omega
              · obtain ⟨i, hi⟩ : ∃ m, j = m + 1 := ⟨j - 1, by omega⟩
                obtain ⟨⟨x', y'⟩, hx'⟩ : ∃ p, Lz[i]? = some p := ⟨Lz[i]'(by omega), List.getElem?_eq_getElem _⟩
                obtain ⟨g', eg, _, _, hcx'⟩ := HC.out i _ hx'
                cases eg
                have r1' : wr.cell? ⟨g, i, none⟩ = some (.int .i64 x') := (hbx.out.cell (p := ⟨g, i, none⟩) hg).trans hcx'
                have hlt' : x' < x := by
                  have h1 := List.pairwise_iff_getElem.1 s4.ok.rising i j (by omega) hjl (by omega)
                  rw [List.getElem?_eq_getElem hjl] at hx
                  rw [List.getElem?_eq_getElem (by omega)] at hx'
                  rw [Option.some.inj hx, Option.some.inj hx'] at h1
                  exact h1
                have z1 : decide (x ≤ x') = false := by simp; omega
                have z2 : decide ((0 : Int) < (j : Int)) = true := by simp; omega
                have z3 : decide (0 < j) = true := by simp; omega
                have z5 : (0 : Int) < (j : Int) := by omega
                have z6 : 0 < j := by omega
                have z7 : i < Lz.length := by omega
                have z4 : IntKind.i64.wrap ((j : Int) - 1) = (i : Int) := by
                  rw [show (j : Int) - 1 = (i : Int) by omega]
                  exact IntWalk.i64_in _ ⟨by omega, by omega⟩
                clear hx hx' hcx' hj0 hi
                go_wp2
                go_quiet ((go_at_call 15; exact quiet_eq (held_step (s4.drewN _) R3.out wxx)))
                go_wp2_with (go_at_call 15; refine (held_step (s4.drewN _) R3.out wxx).mono ?_; rintro e w5 ⟨rfl, rfl⟩)
                go_roundw
                case rel => exact ⟨j + 1, by omega, by rw [R6.out], by go_num, s4.drewN _, bdrew' _ hbx.out⟩
                case measure => simp [intOf]; omega
            · obtain rfl : j = Lz.length := by omega
              have hbx := Lib.hid hb4
              have q9 : (sum (Lz.take Lz.length) != sum Lz) = false := by rw [List.take_length]; simp
              clear hb4
              go_wp2
              go_roundw
              case rel => exact ⟨k + 1, Lz, by omega, by go_num, s4, by omega⟩
              case measure => simp [intOf]; omega
      · obtain ⟨c, Lz, hv, hlen, hcs⟩ := rel_cases hS.ok id
        have hO := relF_ok (id := id) hS.ok
        rw [hv] at hO
        have p3 := look_le hO.pos id
        have p4 := hO.le
        have HV := Lib.hid hv
        have HO := Lib.hid hO
        clear hv hO
        go_wp2
        go_quiet ((first | (go_at_call 17; exact quiet_eq (used_step (hS.drewN _) rfl)) | (go_at_call 15; exact quiet_eq (held_step (hS.drewN _) rfl wx))))
        go_wp2_with (go_at_call 10; refine (rel_step (hS.drewN _) HV.out wx).mono ?_; rintro e w2 ⟨rfl, sz, _⟩)
        have f0 := (sz.below.cell (p := ⟨bk, o + k * 3, none⟩) hbk).trans ((hS.below.cell (p := ⟨bk, o + k * 3, none⟩) hbk).symm.trans e0)
        have f1 := (sz.below.cell (p := ⟨bk, o + k * 3 + 1, none⟩) hbk).trans ((hS.below.cell (p := ⟨bk, o + k * 3 + 1, none⟩) hbk).symm.trans e1)
        have f2 := (sz.below.cell (p := ⟨bk, o + k * 3 + 2, none⟩) hbk).trans ((hS.below.cell (p := ⟨bk, o + k * 3 + 2, none⟩) hbk).symm.trans e2)
        clear e0 e1 e2
        go_quiet ((first | (go_at_call 17; exact quiet_eq (used_step (sz.drewN _) rfl)) | (go_at_call 15; exact quiet_eq (held_step (sz.drewN _) rfl wx))))
        rcases hcs with ⟨q1, q2, q3, q4⟩ | ⟨q1, q2, q3, q4⟩
        · go_wp2_with (go_at_call 14; refine (ids_step (sz.drewN _) (by omega)).mono ?_; rintro e w3 ⟨v, rfl, hr, _, s3, hb3⟩; obtain ⟨A, cc, rfl, hcc, hcm, hcell⟩ := ids_cells hr; have HC := Lib.hid hcell; clear hr hcell)
          go_loopw [13, 15] (fun s i wy => ∃ j : Nat, j ≤ Lz.length ∧ s = .int .u64 (sum (Lz.take j)) ∧ i = .int .i64 j ∧ St w wy b bm total Lz ∧ Below w3.heap.size w3 wy) (fun _ i _ => Lz.length - (intOf i).toNat)
          case atStart => exact ⟨0, by omega, by simp [sum], rfl, s3, Below.refl _ _⟩
          case round =>
            obtain ⟨j, hj, rfl, rfl, s4, hb4⟩ := hrel
            by_cases hjl : j < Lz.length
            · obtain ⟨⟨x, y⟩, hx⟩ : ∃ p, Lz[j]? = some p := ⟨Lz[j], List.getElem?_eq_getElem _⟩
              obtain ⟨g, rfl, _, hg, hcx⟩ := HC.out j _ hx
              have r1 : wr.cell? ⟨g, j, none⟩ = some (.int .i64 x) := (hb4.cell (p := ⟨g, j, none⟩) hg).trans hcx
              have hmem : (x, y) ∈ Lz := List.mem_of_getElem? hx
              have r2 : 0 < y := s4.ok.pos _ hmem
              have r3 : Ma.look Lz x = y := look_mem s4.ok.rising hmem
              have r4 := sum_take_le s4.ok.pos j
              have r5 := sum_take_le s4.ok.pos (j + 1)
              have r6 := sum_take_succ hx
              have r7 : (y == 0) = false := by simpa using (show y ≠ 0 by omega)
              have r8 : ¬ (total - sum (Lz.take j) < y) := by have := s4.ok.le; simp only at r6; omega
              have r10 : decide (total - sum (Lz.take j) < y) = false := by simpa using r8
              have wxx : I64 x := s4.ok.wf _ hmem
              have t1 := s4.t1
              have t2 := s4.ok.le
              have R3 := Lib.hid r3
              have R6 := Lib.hid r6
              have hbx := Lib.hid hb4
              have r9 : sum (Lz.take j) + y ≤ total := by omega
              clear r3 r6 hcx hb4 r5
              by_cases hj0 : j = 0
              · have z2 : decide ((0 : Int) < (j : Int)) = false := by simp; omega
                have z3 : decide (0 < j) = false := by simp; omega
                clear hx hj0
                go_wp2
                go_quiet ((go_at_call 15; exact quiet_eq (held_step (s4.drewN _) R3.out wxx)))
                go_wp2_with (go_at_call 15; refine (held_step (s4.drewN _) R3.out wxx).mono ?_; rintro e w5 ⟨rfl, rfl⟩)
                go_roundw
                case rel => exact ⟨j + 1, by omega, by rw [R6.out], by go_num, s4.drewN _, bdrew' _ hbx.out⟩
                case measure => simp [intOf]; omega
              · obtain ⟨i, hi⟩ : ∃ m, j = m + 1 := ⟨j - 1, by omega⟩
                obtain ⟨⟨x', y'⟩, hx'⟩ : ∃ p, Lz[i]? = some p := ⟨Lz[i]'(by omega), List.getElem?_eq_getElem _⟩
                obtain ⟨g', eg, _, _, hcx'⟩ := HC.out i _ hx'
                cases eg
                have r1' : wr.cell? ⟨g, i, none⟩ = some (.int .i64 x') := (hbx.out.cell (p := ⟨g, i, none⟩) hg).trans hcx'
                have hlt' : x' < x := by
                  have h1 := List.pairwise_iff_getElem.1 s4.ok.rising i j (by omega) hjl (by omega)
                  rw [List.getElem?_eq_getElem hjl] at hx
                  rw [List.getElem?_eq_getElem (by omega)] at hx'
                  rw [Option.some.inj hx, Option.some.inj hx'] at h1
                  exact h1
                have z1 : decide (x ≤ x') = false := by simp; omega
                have z2 : decide ((0 : Int) < (j : Int)) = true := by simp; omega
                have z3 : decide (0 < j) = true := by simp; omega
                have z5 : (0 : Int) < (j : Int) := by omega
                have z6 : 0 < j := by omega
                have z7 : i < Lz.length := by omega
                have z4 : IntKind.i64.wrap ((j : Int) - 1) = (i : Int) := by
                  rw [show (j : Int) - 1 = (i : Int) by omega]
                  exact IntWalk.i64_in _ ⟨by omega, by omega⟩
                clear hx hx' hcx' hj0 hi
                go_wp2
                go_quiet ((go_at_call 15; exact quiet_eq (held_step (s4.drewN _) R3.out wxx)))
                go_wp2_with (go_at_call 15; refine (held_step (s4.drewN _) R3.out wxx).mono ?_; rintro e w5 ⟨rfl, rfl⟩)
                go_roundw
                case rel => exact ⟨j + 1, by omega, by rw [R6.out], by go_num, s4.drewN _, bdrew' _ hbx.out⟩
                case measure => simp [intOf]; omega
            · obtain rfl : j = Lz.length := by omega
              have hbx := Lib.hid hb4
              have q9 : (sum (Lz.take Lz.length) != sum Lz) = false := by rw [List.take_length]; simp
              clear hb4
              go_wp2
              go_roundw
              case rel => exact ⟨k + 1, Lz, by omega, by go_num, s4, by omega⟩
              case measure => simp [intOf]; omega
        · go_wp2_with (go_at_call 14; refine (ids_step (sz.drewN _) (by omega)).mono ?_; rintro e w3 ⟨v, rfl, hr, _, s3, hb3⟩; obtain ⟨A, cc, rfl, hcc, hcm, hcell⟩ := ids_cells hr; have HC := Lib.hid hcell; clear hr hcell)
          go_loopw [13, 15] (fun s i wy => ∃ j : Nat, j ≤ Lz.length ∧ s = .int .u64 (sum (Lz.take j)) ∧ i = .int .i64 j ∧ St w wy b bm total Lz ∧ Below w3.heap.size w3 wy) (fun _ i _ => Lz.length - (intOf i).toNat)
          case atStart => exact ⟨0, by omega, by simp [sum], rfl, s3, Below.refl _ _⟩
          case round =>
            obtain ⟨j, hj, rfl, rfl, s4, hb4⟩ := hrel
            by_cases hjl : j < Lz.length
            · obtain ⟨⟨x, y⟩, hx⟩ : ∃ p, Lz[j]? = some p := ⟨Lz[j], List.getElem?_eq_getElem _⟩
              obtain ⟨g, rfl, _, hg, hcx⟩ := HC.out j _ hx
              have r1 : wr.cell? ⟨g, j, none⟩ = some (.int .i64 x) := (hb4.cell (p := ⟨g, j, none⟩) hg).trans hcx
              have hmem : (x, y) ∈ Lz := List.mem_of_getElem? hx
              have r2 : 0 < y := s4.ok.pos _ hmem
              have r3 : Ma.look Lz x = y := look_mem s4.ok.rising hmem
              have r4 := sum_take_le s4.ok.pos j
              have r5 := sum_take_le s4.ok.pos (j + 1)
              have r6 := sum_take_succ hx
              have r7 : (y == 0) = false := by simpa using (show y ≠ 0 by omega)
              have r8 : ¬ (total - sum (Lz.take j) < y) := by have := s4.ok.le; simp only at r6; omega
              have r10 : decide (total - sum (Lz.take j) < y) = false := by simpa using r8
              have wxx : I64 x := s4.ok.wf _ hmem
              have t1 := s4.t1
              have t2 := s4.ok.le
              have R3 := Lib.hid r3
              have R6 := Lib.hid r6
              have hbx := Lib.hid hb4
              have r9 : sum (Lz.take j) + y ≤ total := by omega
              clear r3 r6 hcx hb4 r5
              by_cases hj0 : j = 0
              · have z2 : decide ((0 : Int) < (j : Int)) = false := by simp; omega
                have z3 : decide (0 < j) = false := by simp; omega
                clear hx hj0
                go_wp2
                go_quiet ((go_at_call 15; exact quiet_eq (held_step (s4.drewN _) R3.out wxx)))
                go_wp2_with (go_at_call 15; refine (held_step (s4.drewN _) R3.out wxx).mono ?_; rintro e w5 ⟨rfl, rfl⟩)
                go_roundw
                case rel => exact ⟨j + 1, by omega, by rw [R6.out], by go_num, s4.drewN _, bdrew' _ hbx.out⟩
                case measure => simp [intOf]; omega
              · obtain ⟨i, hi⟩ : ∃ m, j = m + 1 := ⟨j - 1, by omega⟩
                obtain ⟨⟨x', y'⟩, hx'⟩ : ∃ p, Lz[i]? = some p := ⟨Lz[i]'(by omega), List.getElem?_eq_getElem _⟩
                obtain ⟨g', eg, _, _, hcx'⟩ := HC.out i _ hx'
                cases eg
                have r1' : wr.cell? ⟨g, i, none⟩ = some (.int .i64 x') := (hbx.out.cell (p := ⟨g, i, none⟩) hg).trans hcx'
                have hlt' : x' < x := by
                  have h1 := List.pairwise_iff_getElem.1 s4.ok.rising i j (by omega) hjl (by omega)
                  rw [List.getElem?_eq_getElem hjl] at hx
                  rw [List.getElem?_eq_getElem (by omega)] at hx'
                  rw [Option.some.inj hx, Option.some.inj hx'] at h1
                  exact h1
                have z1 : decide (x ≤ x') = false := by simp; omega
                have z2 : decide ((0 : Int) < (j : Int)) = true := by simp; omega
                have z3 : decide (0 < j) = true := by simp; omega
                have z5 : (0 : Int) < (j : Int) := by omega
                have z6 : 0 < j := by omega
                have z7 : i < Lz.length := by omega
                have z4 : IntKind.i64.wrap ((j : Int) - 1) = (i : Int) := by
                  rw [show (j : Int) - 1 = (i : Int) by omega]
                  exact IntWalk.i64_in _ ⟨by omega, by omega⟩
                clear hx hx' hcx' hj0 hi
                go_wp2
                go_quiet ((go_at_call 15; exact quiet_eq (held_step (s4.drewN _) R3.out wxx)))
                go_wp2_with (go_at_call 15; refine (held_step (s4.drewN _) R3.out wxx).mono ?_; rintro e w5 ⟨rfl, rfl⟩)
                go_roundw
                case rel => exact ⟨j + 1, by omega, by rw [R6.out], by go_num, s4.drewN _, bdrew' _ hbx.out⟩
                case measure => simp [intOf]; omega
            · obtain rfl : j = Lz.length := by omega
              have hbx := Lib.hid hb4
              have q9 : (sum (Lz.take Lz.length) != sum Lz) = false := by rw [List.take_length]; simp
              clear hb4
              go_wp2
              go_roundw
              case rel => exact ⟨k + 1, Lz, by omega, by go_num, s4, by omega⟩
              case measure => simp [intOf]; omega
    · obtain rfl : k = len := by omega
      go_wp2_with (go_at_call 7; refine (adds_calls _).mono ?_; rintro e w2 ⟨rfl, ha⟩)
      go_ret
      exact ⟨rfl, hS.below.trans (ha.mono hS.below.size)⟩
end Go.Proofs.Ytdgjhnamfgpgeaa.Led
