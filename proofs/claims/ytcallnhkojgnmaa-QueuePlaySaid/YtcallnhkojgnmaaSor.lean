/- QueueSorted, walked. Conditions: the list of items lies readable. -/
import Derived.Shelf.SlSortCmp.QuietGrown
import Derived.Test.YtcallnhkojgnmaaSrd
namespace Go.Proofs.Ytcallnhkojgnmaa.Q
open Go.RowKit Go.Sort Go.Shelf
open Go.Proofs.Ytcallnhkojgnmaa.Ma
set_option linter.unusedVariables false
set_option linter.unusedSimpArgs false
set_option maxRecDepth 100000 in
theorem sorted_great (A : Option Addr) (len cap : Nat) (y : Int) (w : World) (hl : len ≤ 9223372036854775807) (h2 : 8 < len) : Calls Try.prog 7 #[.slice A len cap, .int .u8 y] w fun e w' => e = .returned (.bool true) ∧ Below w.heap.size w w' := by
  have h3 : (8 : Int) < len := by omega
  go_enter Try.func7, Try.ntmps7
  go_wp2_with (go_at_call 9; refine (waits_calls _).mono ?_; rintro e w' ⟨rfl, hb⟩)
  go_ret
  exact ⟨rfl, hb⟩
theorem push_cases (L : List It) (x : It) : (∃ c, c ≠ 0 ∧ pushF L x = (c, L)) ∨ pushF L x = (0, L ++ [x]) := by
  unfold pushF
  split
  · exact .inl ⟨2, by omega, rfl⟩
  · split
    · exact .inl ⟨230, by omega, rfl⟩
    · exact .inr rfl
/-- A row in memory of its own beside the queue. -/
structure Row (W0 w : World) (b : Nat) (v vi : Value) (L : List It) : Prop where
  row : w.ownsRow W0.heap.size 31 4 vi L.length (cellsK enc4 L)
  ne : ∀ g, vi.ownBlock = some g → g ≠ b ∧ v.ownBlock ≠ some g
theorem Row.turn {W0 w w' : World} {b : Nat} {v v' vi : Value} {L : List It} {S : Nat → Prop} (h : Row W0 w b v vi L) (hf : Fr S w w') (hS : ∀ g, vi.ownBlock = some g → ¬ S g) (hv : ∀ g, v'.ownBlock = some g → v.ownBlock = some g ∨ w.heap.size ≤ g) : Row W0 w' b v' vi L :=
  ⟨hf.row h.row hS, fun g hg => ⟨(h.ne g hg).1, fun e => (hv g e).elim (h.ne g hg).2 (fun e2 => by have := (h.row.lt g hg).2; omega)⟩⟩
theorem Row.below {W0 w w' : World} {b : Nat} {v vi : Value} {L : List It} (h : Row W0 w b v vi L) (hb : Below w.heap.size w w') : Row W0 w' b v vi L :=
  h.turn (Fr.of_below hb) (fun _ _ e => e) (fun g hg => .inl hg)
theorem items_any {W0 w : World} {b : Nat} {L : List It} {v : Value} (h : St W0 w b L v) : Calls Try.prog 17 #[.pointer (some ⟨b, 0, none⟩)] w fun e w' => ∃ v' M, e = .returned v' ∧ M.Perm L ∧ Order M ∧ w'.ownsRow w.heap.size 31 4 v' M.length (cellsK enc4 M) ∧ St W0 w' b L v ∧ Below w.heap.size w w' :=
  (callsIn_wide.1 (items_in W0.heap.size b L v w h.lies h.ok.len)).mono fun e w' ⟨v', M, he, hp, ho, hr, hb⟩ => ⟨v', M, he, hp, ho, by rw [hp.length_eq]; exact hr, h.other hb, hb⟩
theorem eight_keep {V V' : World} {g a0 a1 a2 a3 a4 a5 a6 a7 : Nat} {v0 v1 v2 v3 v4 v5 v6 v7 : Value} (hb : Below V.heap.size V V') (hl : g < V.heap.size) (h : V.cell? ⟨g, a0, none⟩ = some v0 ∧ V.cell? ⟨g, a1, none⟩ = some v1 ∧ V.cell? ⟨g, a2, none⟩ = some v2 ∧ V.cell? ⟨g, a3, none⟩ = some v3 ∧ V.cell? ⟨g, a4, none⟩ = some v4 ∧ V.cell? ⟨g, a5, none⟩ = some v5 ∧ V.cell? ⟨g, a6, none⟩ = some v6 ∧ V.cell? ⟨g, a7, none⟩ = some v7) :
    V'.cell? ⟨g, a0, none⟩ = some v0 ∧ V'.cell? ⟨g, a1, none⟩ = some v1 ∧ V'.cell? ⟨g, a2, none⟩ = some v2 ∧ V'.cell? ⟨g, a3, none⟩ = some v3 ∧ V'.cell? ⟨g, a4, none⟩ = some v4 ∧ V'.cell? ⟨g, a5, none⟩ = some v5 ∧ V'.cell? ⟨g, a6, none⟩ = some v6 ∧ V'.cell? ⟨g, a7, none⟩ = some v7 := by
  obtain ⟨h0, h1, h2, h3, h4, h5, h6, h7⟩ := h
  have key : ∀ {i : Nat} {v : Value}, V.cell? ⟨g, i, none⟩ = some v → V'.cell? ⟨g, i, none⟩ = some v := fun h => (hb.cell (p := ⟨g, _, none⟩) hl).trans h
  exact ⟨key h0, key h1, key h2, key h3, key h4, key h5, key h6, key h7⟩
theorem rank_gr {x1 x2 x3 x4 r : Int} (hv : rankZ (x1, x2, x3, x4) = r) (w : World) (n : Nat) (os : Array Obj) : Calls Try.prog 21 #[.agg #[.int .i64 x1, .int .i64 x2, .int .i64 x3, .int .i64 x4]] (grow (w.drewN n) os) fun e w'' => e = .returned (.int .i64 r) ∧ ∃ p : GrownBy, w'' = grow (w.drewN p.n) p.os := by
  subst hv
  exact Calls.grown_of ((rank_any (x1, x2, x3, x4) _).mono fun _ _ ⟨he, hw⟩ => ⟨he, 0, #[.cells (enc4 (x1, x2, x3, x4)).toArray 31 (0, 0)], by rw [hw, alloc_eq_grow]; rfl⟩)
theorem below_grow2 {w : World} (n : Nat) (os : Array Obj) : Below w.heap.size w (grow (w.drewN n) os) := ⟨rfl, rfl, rfl, by simp [World.drewN], fun k hk => heap_grow_old (w.drewN n) os hk⟩
theorem below_drewN (w : World) (m B : Nat) : Below B w (w.drewN m) := ⟨rfl, rfl, rfl, Nat.le_refl _, fun _ _ => rfl⟩
theorem dec_snoc (x1 x2 x3 x4 z1 z2 z3 z4 : Int) (l : List It) : decide ((x1, x2, x3, x4) ∈ l ++ [(z1, z2, z3, z4)]) = (decide ((x1, x2, x3, x4) ∈ l) || decide (z1 = x1 ∧ z2 = x2 ∧ z3 = x3 ∧ z4 = x4)) := by
  rw [Bool.eq_iff_iff]
  simp only [List.mem_append, List.mem_singleton, Bool.or_eq_true, decide_eq_true_eq, Prod.mk.injEq]
  constructor
  · rintro (h | ⟨rfl, rfl, rfl, rfl⟩)
    · exact .inl h
    · exact .inr ⟨rfl, rfl, rfl, rfl⟩
  · rintro (h | ⟨rfl, rfl, rfl, rfl⟩)
    · exact .inl h
    · exact .inr ⟨rfl, rfl, rfl, rfl⟩
theorem below_alloc4 (w : World) (o : Obj) : Below w.heap.size w (w.alloc o) := (Below.refl _ _).alloc (Nat.le_refl _) _
attribute [local irreducible] wpQuiet
set_option maxRecDepth 100000 in
set_option maxHeartbeats 8000000 in
theorem sorted_at (A : Option Addr) (len cap : Nat) (xs : List It) (y : Int) (w : World) (hl : len ≤ 8) (hlen : xs.length = len) (hL : Lies enc4 4 w A xs) (hy : 0 ≤ y ∧ y ≤ 255) : Calls Try.prog 7 #[.slice A len cap, .int .u8 y] w fun e w' => e = .returned (.bool true) ∧ Below w.heap.size w w' := by
  have h3 : ¬ (8 : Int) < len := by omega
  have HL := Lib.hid hL
  have HLen := Lib.hid hlen
  have y1 : IntKind.i64.wrap y = y := IntWalk.i64_in _ ⟨by omega, by omega⟩
  obtain ⟨i0, hi, hz0, hz1, hz2⟩ := info_parts info31
  clear hL hlen
  go_enter Try.func7, Try.ntmps7
  go_wp2_with fail
  refine (new_step w w (Below.refl _ _)).mono ?_
  rintro e w1 ⟨rfl, h1, _⟩
  obtain ⟨b, hb⟩ : ∃ b, w.heap.size = b := ⟨_, rfl⟩
  have HBB := Lib.hid hb
  rw [hb] at h1 ⊢
  clear hb
  go_wp2_with fail
  go_loopw [6, 7] (fun s i wr => ∃ (k : Nat) (L : List It) (v vi : Value), k ≤ len ∧ i = .int .i64 k ∧ s = vi ∧ St w wr b L v ∧ Row w wr b v vi L) (fun _ i _ => len - (intOf i).toNat)
  case atStart => exact ⟨0, [], _, _, by omega, rfl, rfl, h1, ⟨World.ownsRow_nil _ _ _ _, fun g hg => by simp [Value.ownBlock] at hg⟩⟩
  case round =>
    obtain ⟨k, L, v, vi, hk, rfl, rfl, hS, hR⟩ := hrel
    obtain ⟨Ai, ci, rfl, hci, hci2⟩ := row_open enc4_len hR.row
    by_cases hlt : k < len
    · obtain ⟨⟨x1, x2, x3, x4⟩, hx⟩ : ∃ p, xs[k]? = some p := ⟨xs[k]'(by have := HLen.out; omega), List.getElem?_eq_getElem _⟩
      obtain ⟨b', o, rfl, hb', q0, q1, q2, q3⟩ := lies4 (HL.out.below hS.below (Nat.le_refl _)) hx
      have HX := Lib.hid hx
      have HS := Lib.hid hS
      have HR := Lib.hid hR
      clear hx hS hR h1
      rcases push_cases L (x1, x2, x3, x4) with ⟨c, hc, hp⟩ | hp
      · have e1 : (c == 0) = false := by simpa using hc
        have HP := Lib.hid (push_step HS.out x1 x2 x3 x4 hp)
        clear hc hp
        go_wp2_with (go_at_call 11; refine HP.out.mono ?_; rintro e w2 ⟨rfl, v2, h2, hf2, hl2⟩)
        go_roundw
        case rel => exact ⟨k + 1, L, v2, _, by omega, by go_num, rfl, h2, HR.out.turn hf2 (fun g hg e => by rcases e with e | e; exact (HR.out.ne g hg).1 e; exact (HR.out.ne g hg).2 e) hl2⟩
        case measure => simp [intOf]; omega
      · have HP := Lib.hid (push_step HS.out x1 x2 x3 x4 hp)
        clear hp
        go_wp2_with (first
          | (go_at_call 11; refine HP.out.mono ?_; rintro e w2 ⟨rfl, v2, h2, hf2, hl2⟩; obtain ⟨_, _, eb, hb2, r0, r1, r2, r3⟩ := lies4 (HL.out.below h2.below (Nat.le_refl _)) HX.out; cases eb; have H2 := Lib.hid h2; have R2 := Lib.hid (HR.out.turn hf2 (fun g hg e => by rcases e with e | e; exact (HR.out.ne g hg).1 e; exact (HR.out.ne g hg).2 e) hl2); have L8 := h2.ok.len; have sz2 := h2.below.size; clear h2 hf2 hl2 q0 q1 q2 q3)
          | (at_builtin; refine wpList_append_own_at _ rfl _ _ 40 rfl w.heap.size 31 i0 _ 4 32 Try.underlying40 hi hz0 hz1 hz2 rfl (by omega) _ _ _ rfl (R2.out.row.alloc _) ⟨w2.heap.size, 0, none⟩ 1 1 [.int .i64 x1, .int .i64 x2, .int .i64 x3, .int .i64 x4] rfl rfl (World.news_of_block (heap_alloc_new w2 _)) (by simp [Value.oneCell']) (by unfold maxLen; simp at L8; omega) (by simp at L8; omega) (by simp; omega) ?_; intro v3 w3 hown3 hgrow3 hnil3 hloc3))
        go_roundw
        case rel =>
          have hF := Fr.grow (S := fun k => (Value.slice Ai L.length ci).ownBlock = some k) ((Below.refl _ w2).alloc (Nat.le_refl _) (.cells #[.int .i64 x1, .int .i64 x2, .int .i64 x3, .int .i64 x4] 31)) hgrow3 (fun i hi => .inl hi)
          refine ⟨k + 1, L ++ [(x1, x2, x3, x4)], v2, v3, by omega, by go_num, rfl, H2.out.turn hF (fun e => (R2.out.ne b e).1 rfl) (fun g hg e => (R2.out.ne g e).2 hg) (fun k hk => (R2.out.row.lt k hk).1), ?_, fun g hg => ?_⟩
          · rw [cellsK_append, cellsK_one, List.length_append]
            exact hown3
          · rcases hloc3 with e | e
            · rw [hg] at e
              exact R2.out.ne g e.symm
            · rw [hg] at e
              have e2 := Option.some.inj e
              simp only [World.size_alloc] at e2
              refine ⟨?_, fun e3 => ?_⟩
              · have := lt_of_heap H2.out.lies.1
                omega
              · have := (H2.out.lies.2.lt g e3).2
                omega
        case measure => simp [intOf]; omega
    · obtain rfl : k = len := by omega
      have HS := Lib.hid hS
      have HR := Lib.hid hR
      clear hS hR h1
      go_wp2_with fail
      refine (items_any HS.out).mono ?_
      rintro e w5 ⟨v5, M, rfl, hp, ho, hr5, h5, hb5⟩
      obtain ⟨A5, c5, rfl, hc5, hc52⟩ := row_open enc4_len hr5
      have L8 := h5.ok.len
      have hML : M.length = L.length := hp.length_eq
      have HP := Lib.hid hp
      have HO := Lib.hid ho
      have HNd := Lib.hid h5.ok.nodup
      have H5 := Lib.hid h5
      have LI := Lib.hid (row_lies enc4_len (HR.out.below hb5).row)
      have LA := Lib.hid (row_lies enc4_len hr5)
      have HML := Lib.hid hML
      have HR5 := Lib.hid hr5
      have HNE5 := Lib.hid (show ∀ g, (Value.slice A5 M.length c5).ownBlock = some g → ¬ (g = b ∨ v.ownBlock = some g) from fun g hg e => by
        have h1 := (hr5.lt g hg).1
        rcases e with e | e
        · have h2 := lt_of_heap HS.out.lies.1
          omega
        · have h2 := (HS.out.lies.2.lt g e).2
          omega)
      rw [hML] at hc5 ⊢
      clear hp ho hr5 h5 hb5 hML
      go_wp2_with fail
      go_loopw [9, 10, 11] (fun i _ _ wr => ∃ j : Nat, j ≤ L.length ∧ i = .int .i64 j ∧ Below w5.heap.size w5 wr) (fun i _ _ _ => L.length - (intOf i).toNat)
      case atStart => exact ⟨0, by omega, rfl, Below.refl _ _⟩
      case round =>
        obtain ⟨j, hj, rfl, hbr⟩ := hrel
        by_cases hjl : j < L.length
        · obtain ⟨⟨x1, x2, x3, x4⟩, hx⟩ : ∃ p, L[j]? = some p := ⟨L[j], List.getElem?_eq_getElem _⟩
          have HX := Lib.hid hx
          have HBr := Lib.hid hbr
          clear hx hbr
          go_wp2_with fail
          go_loopw [10, 11] (fun s i wy => ∃ k : Nat, k ≤ L.length ∧ i = .int .i64 k ∧ s = .bool (decide ((x1, x2, x3, x4) ∈ M.take k)) ∧ Below w5.heap.size w5 wy) (fun _ i _ => L.length - (intOf i).toNat)
          case atStart => exact ⟨0, by omega, rfl, by simp, HBr.out⟩
          case round =>
            obtain ⟨k, hk, rfl, rfl, hby⟩ := hrel
            have HBy := Lib.hid hby
            clear hby
            by_cases hkl : k < L.length
            · obtain ⟨⟨z1, z2, z3, z4⟩, hz⟩ : ∃ p, M[k]? = some p := ⟨M[k]'(by have := HML.out; omega), List.getElem?_eq_getElem _⟩
              have HZ := Lib.hid hz
              have htk : M.take (k + 1) = M.take k ++ [(z1, z2, z3, z4)] := by rw [List.take_add_one, hz]; rfl
              have HTk := Lib.hid htk
              obtain ⟨bb, hbb⟩ : ∃ bb, decide ((x1, x2, x3, x4) ∈ M.take k) = bb := ⟨_, rfl⟩
              rw [hbb]
              have HBb := Lib.hid hbb
              clear hz htk hbb
              cases bb
              · obtain ⟨ga, oa, rfl, hga, p0, p1, p2, p3⟩ := lies4 (LA.out.below HBy.out (Nat.le_refl _)) HZ.out
                obtain ⟨gi, oi, rfl, hgi, r0, r1, r2, r3⟩ := lies4 (LI.out.below HBy.out (Nat.le_refl _)) HX.out
                have heq := eq31 z1 z2 z3 z4 x1 x2 x3 x4
                obtain ⟨ee, hee⟩ : ∃ ee, decide (z1 = x1 ∧ z2 = x2 ∧ z3 = x3 ∧ z4 = x4) = ee := ⟨_, rfl⟩
                rw [hee] at heq
                have HEE := Lib.hid hee
                have hkM : (k : Int) < (L.length : Int) := by omega
                have hjL : (j : Int) < (L.length : Int) := by omega
                clear hee
                go_wp2
                go_quiet (fail)
                go_wp2
                go_roundw
                case rel => 
                  refine ⟨k + 1, by omega, by go_num, ?_, HBy.out.trans ?_⟩
                  · rw [HTk.out, dec_snoc, HBb.out, HEE.out]; rfl
                  · exact below_drewN _ _ _
                case measure => simp [intOf]; omega
              · go_wp2
                go_quiet (fail)
                go_wp2
                go_roundw
                case rel => 
                  refine ⟨k + 1, by omega, by go_num, ?_, HBy.out.trans ?_⟩
                  · rw [HTk.out, dec_snoc, HBb.out]; rfl
                  · exact below_drewN _ _ _
                case measure => simp [intOf]; omega
            · obtain rfl : k = L.length := by omega
              have hin : decide ((x1, x2, x3, x4) ∈ M.take L.length) = true := by
                rw [List.take_of_length_le (by have := HML.out; omega), decide_eq_true_eq]
                exact HP.out.mem_iff.2 (List.mem_of_getElem? HX.out)
              rw [hin]
              clear hin
              go_upto_region 21 with (fail)
              go_cut [120] from 49 to 120 (fun s wx => s = .bool false ∧ Below w5.heap.size w5 wx)
              case first =>
                by_cases h0 : j = 0
                · subst h0
                  go_quiet (fail)
                  go_wp2
                  go_meet
                  exact ⟨rfl, HBy.out.trans (below_drewN _ _ _)⟩
                · obtain ⟨q, hq⟩ : ∃ q, j = q + 1 := ⟨j - 1, by omega⟩
                  obtain ⟨⟨z1, z2, z3, z4⟩, hz⟩ : ∃ p, M[q]? = some p := ⟨M[q]'(by have := HML.out; omega), List.getElem?_eq_getElem _⟩
                  obtain ⟨⟨u1, u2, u3, u4⟩, hu⟩ : ∃ p, M[j]? = some p := ⟨M[j]'(by have := HML.out; omega), List.getElem?_eq_getElem _⟩
                  have hnx := ord_next HO.out ((HP.out.map Prod.fst).nodup_iff.2 HNd.out) hz (by rw [← hq]; exact hu)
                  dsimp only at hnx
                  obtain ⟨ga, oa, rfl, hga, p0, p1, p2, p3⟩ := lies4 (LA.out.below HBy.out (Nat.le_refl _)) hz
                  obtain ⟨gb, ob, eab, hgb, r0, r1, r2, r3⟩ := lies4 (LA.out.below HBy.out (Nat.le_refl _)) hu
                  cases eab
                  obtain ⟨ra, hra⟩ : ∃ r, rankZ (z1, z2, z3, z4) = r := ⟨_, rfl⟩
                  obtain ⟨rb, hrb⟩ : ∃ r, rankZ (u1, u2, u3, u4) = r := ⟨_, rfl⟩
                  rw [hra, hrb] at hnx
                  have HRa := Lib.hid hra
                  have HRb := Lib.hid hrb
                  have hb1 : (j : Int) < (L.length : Int) := by omega
                  have hb2 : (q : Int) < (L.length : Int) := by omega
                  have hb3 : (0 : Int) ≤ (q : Int) := by omega
                  have hb5 : (0 : Int) < (j : Int) := by omega
                  have hb4 : IntKind.i64.wrap ((j : Int) - 1) = (q : Int) := by rw [show (j : Int) - 1 = (q : Int) by omega]; exact IntWalk.i64_in _ ⟨by omega, by omega⟩
                  have hb6 : 0 < j := by omega
                  have hb7 : decide (0 < j) = true := by simp; omega
                  have mixed : Try.prog.follows .mixedOrders = true := by kernel_rfl
                  have s0 := fun n os => cell_grown (a := ⟨ga, oa + q * 4, none⟩) hga p0 n os
                  have s1 := fun n os => cell_grown (a := ⟨ga, oa + q * 4 + 1, none⟩) hga p1 n os
                  have s2 := fun n os => cell_grown (a := ⟨ga, oa + q * 4 + 2, none⟩) hga p2 n os
                  have s3 := fun n os => cell_grown (a := ⟨ga, oa + q * 4 + 3, none⟩) hga p3 n os
                  have t0 := fun n os => cell_grown (a := ⟨ga, oa + j * 4, none⟩) hga r0 n os
                  have t1 := fun n os => cell_grown (a := ⟨ga, oa + j * 4 + 1, none⟩) hga r1 n os
                  have t2 := fun n os => cell_grown (a := ⟨ga, oa + j * 4 + 2, none⟩) hga r2 n os
                  have t3 := fun n os => cell_grown (a := ⟨ga, oa + j * 4 + 3, none⟩) hga r3 n os
                  rcases hnx with hnx | ⟨hnx, hnx2⟩
                  · have c1 : decide (ra < rb) = false := by simp; omega
                    have c2 : (ra == rb) = false := by simp; omega
                    clear hnx hz hu hra hrb hq h0 p0 p1 p2 p3 r0 r1 r2 r3 hga hgb
                    refine wp_region_quiet_grown (by assumption) (by kernel_rfl) ?_
                    iterate 11 (quiet_step (fail))
                    quiet_step ((go_at_call 21; exact rank_gr HRa.out _ _ _))
                    iterate 4 (quiet_step (fail))
                    quiet_step ((go_at_call 21; exact rank_gr HRb.out _ _ _))
                    iterate 7 (quiet_step (fail))
                    quiet_step ((go_at_call 21; exact rank_gr HRa.out _ _ _))
                    iterate 4 (quiet_step (fail))
                    quiet_step ((go_at_call 21; exact rank_gr HRb.out _ _ _))
                    iterate 18 (quiet_step (fail))
                    refine wpQuiet_nil ?_
                    intro _ hw'
                    obtain ⟨⟨nq, osq⟩, hw''⟩ := hw'
                    subst hw''
                    clear s0 s1 s2 s3 t0 t1 t2 t3 mixed
                    go_wp2
                    go_meet
                    exact ⟨rfl, HBy.out.trans ((below_grow2 _ _).mono HBy.out.size)⟩
                  · have c1 : decide (ra < rb) = false := by simp; omega
                    have c2 : (ra == rb) = true := by simp; omega
                    have c3 : decide (u1 ≤ z1) = false := by simp; omega
                    clear hnx hnx2 hz hu hra hrb hq h0 p0 p1 p2 p3 r0 r1 r2 r3 hga hgb
                    refine wp_region_quiet_grown (by assumption) (by kernel_rfl) ?_
                    iterate 11 (quiet_step (fail))
                    quiet_step ((go_at_call 21; exact rank_gr HRa.out _ _ _))
                    iterate 4 (quiet_step (fail))
                    quiet_step ((go_at_call 21; exact rank_gr HRb.out _ _ _))
                    iterate 7 (quiet_step (fail))
                    quiet_step ((go_at_call 21; exact rank_gr HRa.out _ _ _))
                    iterate 4 (quiet_step (fail))
                    quiet_step ((go_at_call 21; exact rank_gr HRb.out _ _ _))
                    iterate 18 (quiet_step (fail))
                    refine wpQuiet_nil ?_
                    intro _ hw'
                    obtain ⟨⟨nq, osq⟩, hw''⟩ := hw'
                    subst hw''
                    clear s0 s1 s2 s3 t0 t1 t2 t3 mixed
                    go_wp2
                    go_meet
                    exact ⟨rfl, HBy.out.trans ((below_grow2 _ _).mono HBy.out.size)⟩
              case rest =>
                obtain ⟨rfl, hbz⟩ := hcut
                have HBz := Lib.hid hbz
                clear hbz
                go_wp2
                go_roundw
                case rel => exact ⟨j + 1, by omega, by go_num, HBz.out⟩
                case measure => simp [intOf]; omega
        · obtain rfl : j = L.length := by omega
          have HSr := Lib.hid (H5.out.other hbr)
          have HBr := Lib.hid hbr
          clear hbr
          by_cases h0 : L.length = 0
          · have hL0 : L = [] := List.length_eq_zero_iff.1 h0
            have HS0 := Lib.hid (show St w wr b [] v by rw [← hL0]; exact HSr.out)
            have g1 : ¬ (0 : Int) < (L.length : Int) := by omega
            have g2 : decide (0 < L.length) = false := by simp; omega
            have g3 : ¬ 0 < L.length := by omega
            clear h0 hL0
            go_wp2_with (first | (go_at_call 9; refine (waits_calls _).mono ?_; rintro e w7 ⟨rfl, hb7⟩; have HB7 := Lib.hid hb7; clear hb7) | (go_at_call 19; refine (head_step0 HS0.out).mono ?_; rintro e w6 ⟨rfl, h6, hb6⟩; have H6 := Lib.hid h6; clear h6 hb6))
            go_ret
            exact ⟨rfl, (H6.out.below.trans ((below_alloc4 _ _).mono H6.out.below.size)).trans (HB7.out.mono (by have := H6.out.below.size; simp only [World.size_alloc]; omega))⟩
          · obtain ⟨n, hn⟩ : ∃ n, L.length = n + 1 := ⟨L.length - 1, by omega⟩
            obtain ⟨⟨m1, m2, m3, m4⟩, hm⟩ : ∃ p, M[0]? = some p := ⟨M[0]'(by have := HML.out; omega), List.getElem?_eq_getElem _⟩
            have hmin := minOf_head HP.out HO.out HNd.out hm
            have g1 : (0 : Int) < (L.length : Int) := by omega
            have g2 : decide (0 < L.length) = true := by simp; omega
            have g3 : 0 < L.length := by omega
            have hq0 := Int.emod_nonneg y (show (L.length : Int) ≠ 0 by omega)
            have hq1 := Int.emod_lt_of_pos y g1
            obtain ⟨k, hk⟩ : ∃ k : Nat, y % (L.length : Int) = (k : Int) := ⟨(y % (L.length : Int)).toNat, by omega⟩
            rw [hk] at hq1
            obtain ⟨⟨x1, x2, x3, x4⟩, hx⟩ : ∃ p, M[k]? = some p := ⟨M[k]'(by have := HML.out; omega), List.getElem?_eq_getElem _⟩
            obtain ⟨L', hrem, hp', ho'⟩ := rem_at_ord HP.out HO.out HNd.out hx
            dsimp only at hrem
            have hel : (M.eraseIdx k).length = n := by rw [List.length_eraseIdx_of_lt (by have := HML.out; omega)]; have := HML.out; omega
            have hwk : IntKind.i64.wrap (y % (L.length : Int)) = (k : Int) := by rw [hk]; exact IntWalk.i64_in _ ⟨by omega, by omega⟩
            have hwt : IntKind.i64.wrap (y.tmod (L.length : Int)) = (k : Int) := by rw [Int.tmod_eq_emod_of_nonneg hy.1]; exact hwk
            have hwn : IntKind.i64.wrap ((L.length : Int) - 1) = (n : Int) := by rw [show (L.length : Int) - 1 = (n : Int) by omega]; exact IntWalk.i64_in _ ⟨by omega, by omega⟩
            have hnz : ¬ (L.length : Int) = 0 := by omega
            have hnm : ¬ (L.length : Int) = -1 := by omega
            have k1 : ¬ (k : Int) < 0 := by omega
            have HM0 := Lib.hid hm
            have HMin := Lib.hid hmin
            have HMk := Lib.hid hx
            have HRem := Lib.hid hrem
            have HP' := Lib.hid hp'
            have HO' := Lib.hid ho'
            have HEl := Lib.hid hel
            have HN := Lib.hid hn
            have HK := Lib.hid hk
            have neq := neq31 m1 m2 m3 m4 m1 m2 m3 m4
            rw [show decide (m1 = m1 ∧ m2 = m2 ∧ m3 = m3 ∧ m4 = m4) = true by simp] at neq
            clear h0 hn hm hmin hq0 hk hx hrem hp' ho' hel
            obtain ⟨a5, o5, ea5, ha5, p0, p1, p2, p3⟩ := lies4 (LA.out.below HBr.out (Nat.le_refl _)) HM0.out
            cases ea5
            obtain ⟨_, _, ea6, _, r0, r1, r2, r3⟩ := lies4 (LA.out.below HBr.out (Nat.le_refl _)) HMk.out
            cases ea6
            clear p0 p1 p2 p3 r0 r1 r2 r3
            go_wp2_with (go_at_call 19; refine (head_step HSr.out g3 HMin.out).mono ?_; rintro e w6 ⟨rfl, h6, hb6⟩; have H6 := Lib.hid h6; have HB6 := Lib.hid hb6; clear h6 hb6)
            rw [HK.out]
            generalize hW : w6.alloc _ = W
            have hx6 : W.heap[w6.heap.size]? = some (.cells #[.int .i64 m1, .int .i64 m2, .int .i64 m3, .int .i64 m4] 31 (0, 0)) := by rw [← hW]; exact heap_alloc_new w6 _
            have hbW : Below w6.heap.size w6 W := by rw [← hW]; exact below_alloc4 _ _
            have HX6 := Lib.hid hx6
            have HWr := Lib.hid (H6.out.other hbW)
            have HBW := Lib.hid ((HBr.out.trans (HB6.out.mono HBr.out.size)).trans (hbW.mono (by have := HBr.out.size; have := HB6.out.size; omega)))
            generalize w6.heap.size = bx at HX6 ⊢
            clear hW hx6 hbW
            refine region_tail 12 (by kernel_rfl) (by kernel_rfl) fun wd hwd => ?_
            simp only [List.take_succ_cons, List.take_zero, List.drop_succ_cons, List.drop_zero]
            have HBD := Lib.hid (show Below w5.heap.size w5 wd by rw [hwd]; exact HBW.out.drew)
            have HWd := Lib.hid (show St w wd b L v by rw [hwd]; exact HWr.out.drewN 1)
            have hx7 : wd.heap[bx]? = some (.cells #[.int .i64 m1, .int .i64 m2, .int .i64 m3, .int .i64 m4] 31 (0, 0)) := hwd ▸ HX6.out
            have d0 := cell_of_heap (i := 0) hx7 rfl
            have d1 := cell_of_heap (i := 1) hx7 rfl
            have d2 := cell_of_heap (i := 2) hx7 rfl
            have d3 := cell_of_heap (i := 3) hx7 rfl
            obtain ⟨_, _, eb, _, p0, p1, p2, p3⟩ := lies4 (LA.out.below HBD.out (Nat.le_refl _)) HM0.out
            cases eb
            simp only [Nat.zero_mul, Nat.add_zero] at p0 p1 p2 p3
            obtain ⟨_, _, eb, _, r0, r1, r2, r3⟩ := lies4 (LA.out.below HBD.out (Nat.le_refl _)) HMk.out
            cases eb
            clear hx7 hwd r1 r2 r3
            repeat still_step
            refine wpStill_nil ?_
            clear d0 d1 d2 d3 p0 p1 p2 p3
            go_wp2_with (first
              | (go_at_call 17; refine (items_step H7.out HP'.out HO'.out).mono ?_; rintro e w8 ⟨v8, rfl, hr8, h8, hb8⟩; obtain ⟨A8, c8, rfl, hc8, hc82⟩ := row_open enc4_len hr8; have HR8 := Lib.hid hr8; have H8 := Lib.hid h8; have HB8 := Lib.hid hb8; rw [HEl.out] at hc8 ⊢; clear hr8 h8 hb8)
              | (go_at_call 13; refine (rem_step HWd.out HRem.out).mono ?_; rintro e w7 ⟨rfl, v7, h7, ho7, hf7⟩; have H7 := Lib.hid h7; have R7 := Lib.hid (hf7.row ((Fr.of_below HBD.out).row HR5.out (fun _ _ e => e)) HNE5.out); clear h7 ho7 hf7))
            have LA8 := Lib.hid ((row_lies enc4_len R7.out).below HB8.out (Nat.le_refl _))
            have LR8 := Lib.hid (row_lies enc4_len HR8.out)
            clear g1 g2 g3 neq hwk hwt hwn hnz hnm k1
            go_loopw [16] (fun i wr => ∃ j : Nat, j ≤ n ∧ i = .int .i64 j ∧ Below w8.heap.size w8 wr) (fun i _ => n - (intOf i).toNat)
            case atStart => exact ⟨0, by omega, rfl, Below.refl _ _⟩
            case round =>
              obtain ⟨j, hj, rfl, hby⟩ := hrel
              have HBy := Lib.hid hby
              clear hby
              by_cases hjn : j < n
              · have b1 : (j : Int) < (n : Int) := by omega
                by_cases hjk : j < k
                · obtain ⟨⟨z1, z2, z3, z4⟩, hz⟩ : ∃ p, M[j]? = some p := ⟨M[j]'(by have := HML.out; have := HN.out; omega), List.getElem?_eq_getElem _⟩
                  have hz2 : (M.eraseIdx k)[j]? = some (z1, z2, z3, z4) := by rw [List.getElem?_eraseIdx_of_lt hjk]; exact hz
                  obtain ⟨_, _, eb, hg5, p0, p1, p2, p3⟩ := lies4 (LA8.out.below HBy.out (Nat.le_refl _)) hz
                  cases eb
                  obtain ⟨g8, o8, rfl, hg8, r0, r1, r2, r3⟩ := lies4 (LR8.out.below HBy.out (Nat.le_refl _)) hz2
                  have neq := neq31 z1 z2 z3 z4 z1 z2 z3 z4
                  rw [show decide (z1 = z1 ∧ z2 = z2 ∧ z3 = z3 ∧ z4 = z4) = true by simp] at neq
                  have b2 : (j : Int) < (L.length : Int) := by have := HN.out; omega
                  have b3 : (j : Int) < (k : Int) := by omega
                  have b4 : decide (j < k) = true := by simp; omega
                  have b5 : ¬ (k : Int) ≤ (j : Int) := by omega
                  have b6 : decide (k ≤ j) = false := by simp; omega
                  have b7 : ¬ k ≤ j := by omega
                  clear hz hz2 hg5 hg8 hj
                  go_wp2
                  go_quiet (fail)
                  go_wp2
                  go_roundw
                  case rel => exact ⟨j + 1, by omega, by go_num, HBy.out.trans (below_drewN _ _ _)⟩
                  case measure => simp [intOf]; omega
                · obtain ⟨q, hq⟩ : ∃ q, j + 1 = q := ⟨_, rfl⟩
                  obtain ⟨⟨z1, z2, z3, z4⟩, hz⟩ : ∃ p, M[q]? = some p := ⟨M[q]'(by have := HML.out; have := HN.out; omega), List.getElem?_eq_getElem _⟩
                  have hz2 : (M.eraseIdx k)[j]? = some (z1, z2, z3, z4) := by rw [List.getElem?_eraseIdx_of_ge (by omega), hq]; exact hz
                  obtain ⟨_, _, eb, hg5, p0, p1, p2, p3⟩ := lies4 (LA8.out.below HBy.out (Nat.le_refl _)) hz
                  cases eb
                  obtain ⟨g8, o8, rfl, hg8, r0, r1, r2, r3⟩ := lies4 (LR8.out.below HBy.out (Nat.le_refl _)) hz2
                  have neq := neq31 z1 z2 z3 z4 z1 z2 z3 z4
                  rw [show decide (z1 = z1 ∧ z2 = z2 ∧ z3 = z3 ∧ z4 = z4) = true by simp] at neq
                  have b2 : (q : Int) < (L.length : Int) := by have := HN.out; omega
                  have b0 : (0 : Int) ≤ (q : Int) := by omega
                  have b3 : ¬ (j : Int) < (k : Int) := by omega
                  have b4 : decide (j < k) = false := by simp; omega
                  have b8 : ¬ j < k := by omega
                  have b5 : (k : Int) ≤ (j : Int) := by omega
                  have b6 : decide (k ≤ j) = true := by simp; omega
                  have b7 : k ≤ j := by omega
                  have hwq : IntKind.i64.wrap ((j : Int) + 1) = (q : Int) := by rw [show (j : Int) + 1 = (q : Int) by omega]; have := HN.out; exact IntWalk.i64_in _ ⟨by omega, by omega⟩
                  have HQ := Lib.hid hq
                  clear hz hz2 hg5 hg8 hj hq
                  go_wp2
                  go_quiet (fail)
                  go_wp2
                  go_roundw
                  case rel => exact ⟨q, by have := HQ.out; omega, rfl, HBy.out.trans (below_drewN _ _ _)⟩
                  case measure => have := HQ.out; simp [intOf]; omega
              · obtain rfl : j = n := by omega
                go_wp2_with (go_at_call 9; refine (waits_calls _).mono ?_; rintro e w9 ⟨rfl, hb9⟩; have HB9 := Lib.hid hb9; clear hb9)
                go_ret
                have f8 := H8.out.below.trans (HBy.out.mono H8.out.below.size)
                exact ⟨rfl, f8.trans (HB9.out.mono f8.size)⟩
end Go.Proofs.Ytcallnhkojgnmaa.Q
