/- LedgerPlay, walked: whatever is reserved and given back, each answer is the document's. Conditions: the list of deeds lies readable, its numbers are of their kind. -/
import Derived.Test.YtdgjhnamfgpgeaaRes
namespace Go.Proofs.Ytdgjhnamfgpgeaa.Led
open Go.RowKit Go.Maps
open Go.Proofs.Ytdgjhnamfgpgeaa.Ma
set_option linter.unusedVariables false
set_option linter.unusedSimpArgs false
set_option maxRecDepth 100000 in
theorem play_great (total : Int) (A : Option Addr) (len cap : Nat) (w : World) (hl : len ≤ 9223372036854775807) (h2 : 200 < len) : Calls Try.prog 3 #[.int .u64 total, .slice A len cap] w fun e w' => e = .returned (.bool true) ∧ Below w.heap.size w w' := by
  have h3 : (200 : Int) < len := by omega
  go_enter Try.func3, Try.ntmps3
  go_wp2_with (go_at_call 7; refine (adds_calls _).mono ?_; rintro e w' ⟨rfl, hb⟩)
  go_ret
  exact ⟨rfl, hb⟩
set_option maxRecDepth 100000 in
set_option maxHeartbeats 4000000 in
theorem play_zero (A : Option Addr) (len cap : Nat) (w : World) (hl : len ≤ 200) : Calls Try.prog 3 #[.int .u64 0, .slice A len cap] w fun e w' => e = .returned (.bool true) ∧ Below w.heap.size w w' := by
  have h2 : ¬ (200 : Int) < len := by omega
  go_enter Try.func3, Try.ntmps3
  go_wp2_with (first | (go_at_call 8; refine (new_bad w).mono ?_; rintro e w' ⟨rfl, rfl⟩) | (go_at_call 9; refine (rnew_bad w).mono ?_; rintro e w' ⟨rfl, rfl⟩))
  go_loopw [9] (fun i wr => i = .int .i64 0 ∧ wr = w) (fun _ _ => 0)
  case atStart => exact ⟨rfl, rfl⟩
  case round =>
    obtain ⟨rfl, rfl⟩ := hrel
    by_cases h : 0 < len
    all_goals
      go_wp2_with (go_at_call 7; refine (adds_calls _).mono ?_; rintro e w2 ⟨rfl, hb⟩)
      go_ret
      exact ⟨rfl, hb⟩
theorem St.turn {W0 w w' : World} {b bm : Nat} {total : Int} {L : List Ent} {S : Nat → Prop} (h : St W0 w b bm total L) (hf : Fr S w w') (h1 : ¬ S b) (h2 : ¬ S bm) (hS : ∀ k, S k → W0.heap.size ≤ k) : St W0 w' b bm total L :=
  ⟨h.at_.kept hf h1 h2, h.ok, h.t0, h.t1, h.hb, h.hm, h.below.trans (hf.below h.below.size hS)⟩
theorem St.ref {W0 w : World} {b bm rb B : Nat} {total total' : Int} {L M : List Ent} {v : Value} (h : St W0 w b bm total L) (hr : RefAt B w rb total' M v) : rb ≠ b ∧ rb ≠ bm ∧ ∀ g, v.ownBlock = some g → g ≠ b ∧ g ≠ bm := by
  obtain ⟨h1, es, clock, h2, _⟩ := h.at_
  refine ⟨?_, ?_, fun g hg => ?_⟩
  · rintro rfl; rw [hr.1] at h1; cases h1
  · rintro rfl; rw [hr.1] at h2; cases h2
  · rcases hr.2.2 with ⟨rfl, _⟩ | ⟨g', cap, cur, rfl, _, hg', _⟩
    · simp [Value.ownBlock] at hg
    · simp [Value.ownBlock] at hg
      subst hg
      refine ⟨?_, ?_⟩
      · rintro rfl; rw [hg'] at h1; cases h1
      · rintro rfl; rw [hg'] at h2; cases h2
theorem fits_quiet {W0 w : World} {b bm : Nat} {total need : Int} {L : List Ent} (h : St W0 w b bm total L) (n : Nat) :
    Calls Try.prog 19 #[.pointer (some ⟨b, 0, none⟩), .int .u64 need] (w.drewN n) fun e w' => e = .returned (.bool (decide (need ≤ total - sum L))) ∧ ∃ m, w' = w.drewN m := by
  have h' := h.drewN n
  refine (fits_at b bm total need L _ h'.at_ (sum_nonneg h.ok.pos) h.ok.le h.t1).mono ?_
  rintro e w' ⟨m, rfl, rfl⟩
  exact ⟨rfl, n + m, by rw [World.drewN_drewN]⟩
theorem rres_step {B rb : Nat} {total id need c : Int} {L L' : List Ent} {v : Value} {w : World} (h : RefAt B w rb total L v) (hv : resF total L id need = (c, L')) (hB : B ≤ w.heap.size) (hok : Ok total L) (ht : total ≤ 18446744073709551615) (hU : U64 need) (hlen : L.length ≤ 1000000) :
    Calls Try.prog 13 #[.pointer (some ⟨rb, 0, none⟩), .int .i64 id, .int .u64 need] w fun e w' => e = .returned (.int .i64 c) ∧ ∃ v', RefAt B w' rb total L' v' ∧ Fr (fun k => k = rb) w w' := by
  have H := rres_at B rb total id need L v w h hB hok ht hU hlen
  rw [hv] at H
  exact H
theorem rrel_step {B rb : Nat} {total id c : Int} {L L' : List Ent} {v : Value} {w : World} (h : RefAt B w rb total L v) (hv : relF L id = (c, L')) (hB : B ≤ w.heap.size) (hlen : L.length ≤ 1000000) :
    Calls Try.prog 11 #[.pointer (some ⟨rb, 0, none⟩), .int .i64 id] w fun e w' => e = .returned (.int .i64 c) ∧ ∃ v', RefAt B w' rb total L' v' ∧ Fr (fun k => k = rb) w w' := by
  have H := rrel_at B rb total id L v w h hB hlen
  rw [hv] at H
  exact H
theorem new_box (w : World) (o : Obj) : ∃ W, w.alloc o = W ∧ W.heap[w.heap.size]? = some o ∧ Below w.heap.size w W := ⟨_, rfl, heap_alloc_new w o, (Below.refl _ _).alloc (Nat.le_refl _) _⟩
theorem u64_in (n : Int) (h : 0 ≤ n ∧ n ≤ 18446744073709551615) : IntKind.u64.wrap n = n := by
  simp only [IntKind.wrap, IntKind.bits, IntKind.signed]
  simp
  exact Int.emod_eq_of_lt h.1 (by omega)
theorem ids_cells5 {w : World} {base : Nat} {v : Value} {L : List Ent} (h : w.ownsRow base 3 1 v L.length ((L.map Prod.fst).map encZ)) :
    ∃ A c, v = .slice A L.length c ∧ L.length ≤ c ∧ L.length ≤ 9223372036854775807 ∧ ∀ j p, L[j]? = some p → ∃ g, A = some ⟨g, 0, none⟩ ∧ base ≤ g ∧ g < w.heap.size ∧ w.cell? ⟨g, j, none⟩ = some (.int .i64 p.1) ∧ w.frozen? ⟨g, j, none⟩ = false := by
  rcases h.2 with ⟨rfl, hn⟩ | ⟨g, cap, cur, rfl, hb, hg, hc, hm, hcs, hcur⟩
  · refine ⟨none, 0, by rw [hn], by omega, by omega, fun j p hp => ?_⟩
    have := (List.getElem?_eq_some_iff.1 hp).1
    omega
  · refine ⟨_, cap, rfl, hc, by unfold maxLen at hm; omega, fun j p hp => ⟨g, rfl, hb, lt_of_heap hg, cell_of_heap hg ?_, ?_⟩⟩
    · have hj := (List.getElem?_eq_some_iff.1 hp).1
      have e : (cur.toList.take (L.length * 1))[j]? = some (.int .i64 p.1) := by rw [hcur]; simp [hp]
      rw [List.getElem?_take_of_lt (by omega)] at e
      simpa using e
    · have hj := (List.getElem?_eq_some_iff.1 hp).1
      exact free_of_heap hg (by omega)
theorem RefAt.drewN {B : Nat} {w : World} {rb : Nat} {total : Int} {L : List Ent} {v : Value} (n : Nat) (h : RefAt B w rb total L v) : RefAt B (w.drewN n) rb total L v := h
set_option maxRecDepth 100000 in
set_option maxHeartbeats 4000000 in
theorem play_at (total : Int) (A : Option Addr) (len cap : Nat) (xs : List Deed) (w : World) (h0 : 0 < total) (h1 : total ≤ 18446744073709551615) (hl : len ≤ 200) (hd : IsDeeds w A len xs) : Calls Try.prog 3 #[.int .u64 total, .slice A len cap] w fun e w' => e = .returned (.bool true) ∧ Below w.heap.size w w' := by
  have h2 : ¬ (200 : Int) < len := by omega
  have HD := Lib.hid hd
  clear hd
  go_enter Try.func3, Try.ntmps3
  go_wp2_with (first | (go_at_call 8; refine (new_step w w total h0 h1 (Below.refl _ _)).mono ?_; rintro e w1 ⟨b, bm, rfl, s1, _, _, _⟩) | (go_at_call 9; refine (rnew_at total w1 h0 w.heap.size).mono ?_; rintro e w2 ⟨rfl, r2, hb2⟩; have s2 := s1.other hb2; have hrb := s1.below.size))
  generalize w1.heap.size = rb at r2 hrb ⊢
  go_loopw [9] (fun i wr => ∃ (k : Nat) (L : List Ent) (v : Value), k ≤ len ∧ i = .int .i64 k ∧ St w wr b bm total L ∧ L.length ≤ k ∧ RefAt w.heap.size wr rb total L v) (fun i _ => len - (intOf i).toNat)
  case atStart => exact ⟨0, [], _, by omega, rfl, s2, by simp, r2⟩
  case round =>
    obtain ⟨k, L, v, hk, rfl, hS, hL, hR⟩ := hrel
    by_cases hlt : k < len
    · obtain ⟨x, hx⟩ : ∃ x, xs[k]? = some x := ⟨xs[k]'(by have := HD.out.1; omega), List.getElem?_eq_getElem _⟩
      obtain ⟨bk, o, rfl, hbk, c0, c1, c2, wx, wn⟩ := HD.out.2 k x hx
      obtain ⟨id, need, back⟩ := x
      dsimp only at c0 c1 c2 wx wn
      have e0 := (hS.below.cell (p := ⟨bk, o + k * 3, none⟩) hbk).trans c0
      have e1 := (hS.below.cell (p := ⟨bk, o + k * 3 + 1, none⟩) hbk).trans c1
      have e2 := (hS.below.cell (p := ⟨bk, o + k * 3 + 2, none⟩) hbk).trans c2
      clear c0 c1 c2
      have HSt := Lib.hid hS
      have HRf := Lib.hid hR
      have hS0 := hS
      have hR0 := hR
      clear hR hS
      have hap := hS0.ref hR0
      have lb := lt_of_heap hS0.at_.1
      have lm := hS0.at_.2.lt
      have lr := lt_of_heap hR0.1
      have AP := Lib.hid hap
      have HO := Lib.hid hS0.ok
      clear hap
      cases back
      · obtain ⟨c, Lz, hv, hlen, _⟩ := res_cases HO.out id need wn.1
        have hOz := resF_ok (id := id) HO.out wx wn.1
        rw [hv] at hOz
        have HV := Lib.hid hv
        have p3 := look_le hOz.pos id
        have p4 := hOz.le
        have HOz := Lib.hid hOz
        clear hv hOz
        go_wp2
        obtain ⟨W1, hW1, g1, hb1⟩ := new_box wr (.cells #[.int .i64 id, .int .u64 need, .bool false] 33)
        rw [hW1]
        clear hW1
        have s1x := Lib.hid (hS0.other hb1)
        have r1x := Lib.hid (hR0.kept (Fr.of_below hb1) (fun e => e) (fun _ _ e => e))
        obtain ⟨xb, hxb⟩ : ∃ xb, wr.heap.size = xb := ⟨_, rfl⟩
        rw [hxb] at g1 ⊢
        have nb : xb ≠ b := by omega
        have nm : xb ≠ bm := by omega
        have nr : xb ≠ rb := by omega
        have x0 : W1.cell? ⟨xb, 0, none⟩ = some (.int .i64 id) := cell_of_heap g1 rfl
        have x1 : W1.cell? ⟨xb, 1, none⟩ = some (.int .u64 need) := cell_of_heap g1 rfl
        have HG1 := Lib.hid g1
        clear g1 hb1 hxb e0 e1 e2
        go_region_held3 (fun w' => w'.cell? ⟨xb, 0, none⟩ = some (.int .i64 id) ∧ w'.cell? ⟨xb, 1, none⟩ = some (.int .u64 need))
          (first | go_keep | exact ⟨cell_of_heap g4 rfl, cell_of_heap g4 rfl⟩ | exact ⟨cell_of_heap g3 rfl, cell_of_heap g3 rfl⟩)
          ((first
            | (go_at_call 12; refine (res_step (s1x.out.drewN 1) HV.out wx wn (by omega)).mono ?_; rintro e w3 ⟨rfl, s3, f3⟩; have g3 := f3.keep (k := xb) HG1.out (fun e => by rcases e with rfl | rfl; exact nb rfl; exact nm rfl); have r3 := (r1x.out.drewN 1).kept f3 (fun e => by rcases e with rfl | rfl; exact AP.out.1 rfl; exact AP.out.2.1 rfl) (fun g hg e => by rcases e with rfl | rfl; exact (AP.out.2.2 _ hg).1 rfl; exact (AP.out.2.2 _ hg).2 rfl))
            | (go_at_call 13; refine (rres_step r3 HV.out s3.below.size HO.out h1 wn (by omega)).mono ?_; rintro e w4 ⟨rfl, v4, r4, f4⟩; have g4 := f4.keep (k := xb) g3 nr; have s4 := s3.turn f4 (fun e => AP.out.1 e.symm) (fun e => AP.out.2.1 e.symm) (fun k hk => by rw [hk]; exact hrb))))
        have S4 := Lib.hid s4
        have R4 := Lib.hid r4
        have G4 := Lib.hid g4
        clear s4 r4 g4 s3 r3 g3 f3 f4
        go_wp2_with fail
        refine (ids_step S4.out (by omega)).mono ?_
        rintro e w5 ⟨v5, rfl, hr5, _, s5, hb5⟩
        obtain ⟨A5, c5, rfl, hc5, hm5, hcell5⟩ := ids_cells5 hr5
        have r5 := R4.out.kept (Fr.of_below hb5) (fun e => e) (fun _ _ e => e)
        have g5 := (Fr.of_below hb5).keep G4.out (fun e => e)
        obtain ⟨A4, c4, rfl, hc4, hm4, hn4, hcell4⟩ := row_cells R4.out.2
        have x0 : w5.cell? ⟨xb, 0, none⟩ = some (.int .i64 id) := cell_of_heap g5 rfl
        have x1 : w5.cell? ⟨xb, 1, none⟩ = some (.int .u64 need) := cell_of_heap g5 rfl
        have y1 := r5.c1
        have lb5 := lt_of_heap S4.out.at_.1
        have lm5 := S4.out.at_.2.lt
        have lr5 := lt_of_heap R4.out.1
        have HC5 := Lib.hid hcell5
        have HC4 := Lib.hid hcell4
        have HN4 := Lib.hid hn4
        have HB5 := Lib.hid hb5
        have hsub : IntKind.u64.wrap (total - (total - sum Lz)) = sum Lz := by
          rw [show total - (total - sum Lz) = sum Lz by omega]
          exact u64_in _ ⟨by omega, by omega⟩
        clear hr5 hcell5 hcell4 hn4 hb5 g5
        go_wp2
        go_quiet ((first | (go_at_call 15; exact quiet_eq (held_step (s5.drewN _) rfl wx)) | (go_at_call 16; exact quiet_eq (rheld_at w.heap.size rb total id Lz _ _ (r5.drewN _))) | (go_at_call 17; exact quiet_eq (used_step (s5.drewN _) rfl)) | (go_at_call 18; exact quiet_eq (rleft_at w.heap.size rb total Lz _ _ (r5.drewN _) s5.ok h1)) | (go_at_call 19; exact fits_quiet s5 _)))
        go_wp2
        have s5d := s5.drewN nq
        have r5d := r5.drewN nq
        go_loopw [14] (fun i wy => ∃ j : Nat, j ≤ Lz.length ∧ i = .int .i64 j ∧ St w wy b bm total Lz ∧ RefAt w.heap.size wy rb total Lz (.slice A4 Lz.length c4) ∧ ∀ i' p, j ≤ i' → Lz[i']? = some p → ∃ g, A5 = some ⟨g, 0, none⟩ ∧ w4.heap.size ≤ g ∧ wy.cell? ⟨g, i', none⟩ = some (.int .i64 p.1) ∧ wy.frozen? ⟨g, i', none⟩ = false) (fun i _ => Lz.length - (intOf i).toNat)
        case atStart =>
          refine ⟨0, by omega, rfl, s5d, r5d, fun i' p _ hp => ?_⟩
          obtain ⟨g, hg, hb, _, hc, hf⟩ := HC5.out i' p hp
          exact ⟨g, hg, hb, hc, hf⟩
        case round =>
          obtain ⟨j, hj, rfl, s6, r6, hrest⟩ := hrel
          have HRest := Lib.hid hrest
          have z1 := r6.c1
          clear hrest
          by_cases hjl : j < Lz.length
          · obtain ⟨⟨x, y⟩, hx⟩ : ∃ p, Lz[j]? = some p := ⟨Lz[j], List.getElem?_eq_getElem _⟩
            obtain ⟨g5, rfl, hg5, q0, qf⟩ := HRest.out j _ (Nat.le_refl _) hx
            obtain ⟨A6, c6, e6, _, _, hn6, hcell6⟩ := row_cells r6.2
            cases e6
            obtain ⟨a4, rfl⟩ : ∃ a, A4 = some a := by
              cases A4 with
              | none => have := (hn6 rfl).1; rw [this] at hjl; simp at hjl
              | some a => exact ⟨a, rfl⟩
            obtain ⟨g4, rfl, _, hg4, _, hc6⟩ := hcell6 _ rfl
            obtain ⟨q1, _⟩ := hc6 j _ hx
            have S6 := Lib.hid s6
            have R6 := Lib.hid r6
            have hg4' : ∀ g, (Value.slice (some ⟨g4, 0, none⟩) Lz.length c4).ownBlock = some g → g < w4.heap.size := fun g hg => (R4.out.2.lt g hg).2
            have HG4 := Lib.hid hg4'
            have e7 : (x != x) = false := by simp
            clear hx hn6 hcell6 hc6 s6 r6 hg4'
            go_wp2
            go_quiet (fail)
            go_wp2
            go_roundw
            case rel =>
              have hfr := (Fr.drewN (fun k => k = g5) wr nq).trans (Fr.setCell (wr.drewN nq) ⟨g5, j, none⟩ (.int .i64 (-9)))
              refine ⟨j + 1, by omega, by go_num, S6.out.turn hfr (fun e => ?_) (fun e => ?_) (fun k hk => ?_), R6.out.kept hfr (fun e => ?_) (fun g hg e => ?_), fun i' p hi' hp => ?_⟩
              · have e' : b = g5 := e
                omega
              · have e' : bm = g5 := e
                omega
              · have e' : k = g5 := hk
                have := S4.out.below.size
                omega
              · have e' : rb = g5 := e
                omega
              · have e' : g = g5 := e
                have := HG4.out g hg
                omega
              · obtain ⟨g', eg, hg', hc', hf'⟩ := HRest.out i' p (by omega) hp
                cases eg
                refine ⟨g5, rfl, hg5, ?_, ?_⟩
                · rw [World.cell?_setCell_other _ _ _ _ (fun e => by cases e; omega)]
                  exact hc'
                · rw [World.frozen?_setCell]
                  exact hf'
            case measure => simp [intOf]; omega
          · obtain rfl : j = Lz.length := by omega
            go_wp2
            go_roundw
            case rel => exact ⟨k + 1, Lz, _, by omega, by go_num, s6, by omega, r6⟩
            case measure => simp [intOf]; omega
      · obtain ⟨c, Lz, hv, hlen, _⟩ := rel_cases HO.out id
        have hOz := relF_ok (id := id) HO.out
        rw [hv] at hOz
        have HV := Lib.hid hv
        have p3 := look_le hOz.pos id
        have p4 := hOz.le
        have HOz := Lib.hid hOz
        clear hv hOz
        go_wp2
        obtain ⟨W1, hW1, g1, hb1⟩ := new_box wr (.cells #[.int .i64 id, .int .u64 need, .bool true] 33)
        rw [hW1]
        clear hW1
        have s1x := Lib.hid (hS0.other hb1)
        have r1x := Lib.hid (hR0.kept (Fr.of_below hb1) (fun e => e) (fun _ _ e => e))
        obtain ⟨xb, hxb⟩ : ∃ xb, wr.heap.size = xb := ⟨_, rfl⟩
        rw [hxb] at g1 ⊢
        have nb : xb ≠ b := by omega
        have nm : xb ≠ bm := by omega
        have nr : xb ≠ rb := by omega
        have x0 : W1.cell? ⟨xb, 0, none⟩ = some (.int .i64 id) := cell_of_heap g1 rfl
        have x1 : W1.cell? ⟨xb, 1, none⟩ = some (.int .u64 need) := cell_of_heap g1 rfl
        have HG1 := Lib.hid g1
        clear g1 hb1 hxb e0 e1 e2
        go_region_held3 (fun w' => w'.cell? ⟨xb, 0, none⟩ = some (.int .i64 id) ∧ w'.cell? ⟨xb, 1, none⟩ = some (.int .u64 need))
          (first | go_keep | exact ⟨cell_of_heap g4 rfl, cell_of_heap g4 rfl⟩ | exact ⟨cell_of_heap g3 rfl, cell_of_heap g3 rfl⟩)
          ((first
            | (go_at_call 10; refine (rel_step (s1x.out.drewN 1) HV.out wx).mono ?_; rintro e w3 ⟨rfl, s3, f3⟩; have g3 := f3.keep (k := xb) HG1.out (fun e => by rcases e with rfl | rfl; exact nb rfl; exact nm rfl); have r3 := (r1x.out.drewN 1).kept f3 (fun e => by rcases e with rfl | rfl; exact AP.out.1 rfl; exact AP.out.2.1 rfl) (fun g hg e => by rcases e with rfl | rfl; exact (AP.out.2.2 _ hg).1 rfl; exact (AP.out.2.2 _ hg).2 rfl))
            | (go_at_call 11; refine (rrel_step r3 HV.out s3.below.size (by omega)).mono ?_; rintro e w4 ⟨rfl, v4, r4, f4⟩; have g4 := f4.keep (k := xb) g3 nr; have s4 := s3.turn f4 (fun e => AP.out.1 e.symm) (fun e => AP.out.2.1 e.symm) (fun k hk => by rw [hk]; exact hrb))))
        have S4 := Lib.hid s4
        have R4 := Lib.hid r4
        have G4 := Lib.hid g4
        clear s4 r4 g4 s3 r3 g3 f3 f4
        go_wp2_with fail
        refine (ids_step S4.out (by omega)).mono ?_
        rintro e w5 ⟨v5, rfl, hr5, _, s5, hb5⟩
        obtain ⟨A5, c5, rfl, hc5, hm5, hcell5⟩ := ids_cells5 hr5
        have r5 := R4.out.kept (Fr.of_below hb5) (fun e => e) (fun _ _ e => e)
        have g5 := (Fr.of_below hb5).keep G4.out (fun e => e)
        obtain ⟨A4, c4, rfl, hc4, hm4, hn4, hcell4⟩ := row_cells R4.out.2
        have x0 : w5.cell? ⟨xb, 0, none⟩ = some (.int .i64 id) := cell_of_heap g5 rfl
        have x1 : w5.cell? ⟨xb, 1, none⟩ = some (.int .u64 need) := cell_of_heap g5 rfl
        have y1 := r5.c1
        have lb5 := lt_of_heap S4.out.at_.1
        have lm5 := S4.out.at_.2.lt
        have lr5 := lt_of_heap R4.out.1
        have HC5 := Lib.hid hcell5
        have HC4 := Lib.hid hcell4
        have HN4 := Lib.hid hn4
        have HB5 := Lib.hid hb5
        have hsub : IntKind.u64.wrap (total - (total - sum Lz)) = sum Lz := by
          rw [show total - (total - sum Lz) = sum Lz by omega]
          exact u64_in _ ⟨by omega, by omega⟩
        clear hr5 hcell5 hcell4 hn4 hb5 g5
        go_wp2
        go_quiet ((first | (go_at_call 15; exact quiet_eq (held_step (s5.drewN _) rfl wx)) | (go_at_call 16; exact quiet_eq (rheld_at w.heap.size rb total id Lz _ _ (r5.drewN _))) | (go_at_call 17; exact quiet_eq (used_step (s5.drewN _) rfl)) | (go_at_call 18; exact quiet_eq (rleft_at w.heap.size rb total Lz _ _ (r5.drewN _) s5.ok h1)) | (go_at_call 19; exact fits_quiet s5 _)))
        go_wp2
        have s5d := s5.drewN nq
        have r5d := r5.drewN nq
        go_loopw [14] (fun i wy => ∃ j : Nat, j ≤ Lz.length ∧ i = .int .i64 j ∧ St w wy b bm total Lz ∧ RefAt w.heap.size wy rb total Lz (.slice A4 Lz.length c4) ∧ ∀ i' p, j ≤ i' → Lz[i']? = some p → ∃ g, A5 = some ⟨g, 0, none⟩ ∧ w4.heap.size ≤ g ∧ wy.cell? ⟨g, i', none⟩ = some (.int .i64 p.1) ∧ wy.frozen? ⟨g, i', none⟩ = false) (fun i _ => Lz.length - (intOf i).toNat)
        case atStart =>
          refine ⟨0, by omega, rfl, s5d, r5d, fun i' p _ hp => ?_⟩
          obtain ⟨g, hg, hb, _, hc, hf⟩ := HC5.out i' p hp
          exact ⟨g, hg, hb, hc, hf⟩
        case round =>
          obtain ⟨j, hj, rfl, s6, r6, hrest⟩ := hrel
          have HRest := Lib.hid hrest
          have z1 := r6.c1
          clear hrest
          by_cases hjl : j < Lz.length
          · obtain ⟨⟨x, y⟩, hx⟩ : ∃ p, Lz[j]? = some p := ⟨Lz[j], List.getElem?_eq_getElem _⟩
            obtain ⟨g5, rfl, hg5, q0, qf⟩ := HRest.out j _ (Nat.le_refl _) hx
            obtain ⟨A6, c6, e6, _, _, hn6, hcell6⟩ := row_cells r6.2
            cases e6
            obtain ⟨a4, rfl⟩ : ∃ a, A4 = some a := by
              cases A4 with
              | none => have := (hn6 rfl).1; rw [this] at hjl; simp at hjl
              | some a => exact ⟨a, rfl⟩
            obtain ⟨g4, rfl, _, hg4, _, hc6⟩ := hcell6 _ rfl
            obtain ⟨q1, _⟩ := hc6 j _ hx
            have S6 := Lib.hid s6
            have R6 := Lib.hid r6
            have hg4' : ∀ g, (Value.slice (some ⟨g4, 0, none⟩) Lz.length c4).ownBlock = some g → g < w4.heap.size := fun g hg => (R4.out.2.lt g hg).2
            have HG4 := Lib.hid hg4'
            have e7 : (x != x) = false := by simp
            clear hx hn6 hcell6 hc6 s6 r6 hg4'
            go_wp2
            go_quiet (fail)
            go_wp2
            go_roundw
            case rel =>
              have hfr := (Fr.drewN (fun k => k = g5) wr nq).trans (Fr.setCell (wr.drewN nq) ⟨g5, j, none⟩ (.int .i64 (-9)))
              refine ⟨j + 1, by omega, by go_num, S6.out.turn hfr (fun e => ?_) (fun e => ?_) (fun k hk => ?_), R6.out.kept hfr (fun e => ?_) (fun g hg e => ?_), fun i' p hi' hp => ?_⟩
              · have e' : b = g5 := e
                omega
              · have e' : bm = g5 := e
                omega
              · have e' : k = g5 := hk
                have := S4.out.below.size
                omega
              · have e' : rb = g5 := e
                omega
              · have e' : g = g5 := e
                have := HG4.out g hg
                omega
              · obtain ⟨g', eg, hg', hc', hf'⟩ := HRest.out i' p (by omega) hp
                cases eg
                refine ⟨g5, rfl, hg5, ?_, ?_⟩
                · rw [World.cell?_setCell_other _ _ _ _ (fun e => by cases e; omega)]
                  exact hc'
                · rw [World.frozen?_setCell]
                  exact hf'
            case measure => simp [intOf]; omega
          · obtain rfl : j = Lz.length := by omega
            go_wp2
            go_roundw
            case rel => exact ⟨k + 1, Lz, _, by omega, by go_num, s6, by omega, r6⟩
            case measure => simp [intOf]; omega
    · obtain rfl : k = len := by omega
      go_wp2_with (go_at_call 7; refine (adds_calls _).mono ?_; rintro e w2 ⟨rfl, ha⟩)
      go_ret
      exact ⟨rfl, hS.below.trans (ha.mono hS.below.size)⟩
end Go.Proofs.Ytdgjhnamfgpgeaa.Led
