/- What the document's queue does, each function once: a list, as they came. Conditions: those that each theorem names. -/
import Derived.Test.YtcallnhkojgnmaaSrd
namespace Go.Proofs.Ytcallnhkojgnmaa.Q
open Go.RowKit Go.Sort Go.Shelf
open Go.Proofs.Ytcallnhkojgnmaa.Ma
set_option linter.unusedVariables false
set_option linter.unusedSimpArgs false
theorem info37 : (Try.prog.info? 37).map (fun i => (i.zero, i.size, i.bytes)) = some (some (.agg #[.int .i64 0, .int .i64 0, .int .i64 0, .int .i64 0]), 4, 32) := by kernel_rfl
/-- The document's queue: in block rb, its list in memory from B on. -/
def RefAt (B : Nat) (w : World) (rb : Nat) (L : List It) (v : Value) : Prop :=
  w.heap[rb]? = some (.cells #[v] 29 (0, 0)) ∧ w.ownsRow B 37 4 v L.length (cellsK enc4 L)
section
variable {B : Nat} {w : World} {rb : Nat} {L : List It} {v : Value}
theorem RefAt.c0 (h : RefAt B w rb L v) : w.cell? ⟨rb, 0, none⟩ = some v := cell_of_heap h.1 rfl
theorem RefAt.f0 (h : RefAt B w rb L v) : w.frozen? ⟨rb, 0, none⟩ = false := free_of_heap h.1 (by simp)
theorem RefAt.ne (h : RefAt B w rb L v) : ∀ g, v.ownBlock = some g → g ≠ rb := by
  rintro g hg rfl
  obtain ⟨cur, hc⟩ := own_block h.2 hg
  rw [h.1] at hc
  cases hc
theorem RefAt.kept {S : Nat → Prop} {w' : World} (h : RefAt B w rb L v) (hf : Fr S w w') (hb : ¬ S rb) (hv : ∀ g, v.ownBlock = some g → ¬ S g) : RefAt B w' rb L v := ⟨hf.keep h.1 hb, hf.row h.2 hv⟩
theorem RefAt.below {w' : World} (h : RefAt B w rb L v) (hb : Below w.heap.size w w') : RefAt B w' rb L v := h.kept (Fr.of_below hb) (fun e => e) (fun _ _ e => e)
theorem RefAt.drewN (h : RefAt B w rb L v) (m : Nat) : RefAt B (w.drewN m) rb L v := h
theorem RefAt.store {w1 : World} {L' : List It} {v' : Value} {S : Nat → Prop} (h : RefAt B w rb L v) (hf : Fr S w w1) (hS : ¬ S rb) (hrow : w1.ownsRow B 37 4 v' L'.length (cellsK enc4 L')) (hne : ∀ g, v'.ownBlock = some g → g ≠ rb) :
    RefAt B (w1.setCell ⟨rb, 0, none⟩ v') rb L' v' ∧ Fr (fun k => S k ∨ k = rb) w (w1.setCell ⟨rb, 0, none⟩ v') := by
  have h1 := hf.keep h.1 hS
  exact ⟨⟨by rw [heap_setCell_at h1]; rfl, (Fr.setCell w1 ⟨rb, 0, none⟩ v').row hrow (fun g hg e => hne g hg e)⟩, (hf.mono (fun _ h => .inl h)).trans ((Fr.setCell w1 ⟨rb, 0, none⟩ v').mono (fun _ h => .inr h))⟩
end
theorem place_at (B rb : Nat) (id : Int) (L : List It) (v : Value) (w : World) (h : RefAt B w rb L v) (hlen : L.length ≤ 1000000) :
    Calls Try.prog 25 #[.pointer (some ⟨rb, 0, none⟩), .int .i64 id] w fun e w' => e = .returned (.int .i64 (plc L id)) ∧ w = w' := by
  obtain ⟨A, c, rfl, hc, hcm⟩ := row_open enc4_len h.2
  have HL := Lib.hid (row_lies enc4_len h.2)
  have c0 := h.c0
  clear h
  go_enter Try.func25, Try.ntmps25
  go_wp2
  go_loop [5] (fun i => ∃ j : Nat, j ≤ L.length ∧ i = .int .i64 j ∧ ∀ q ∈ L.take j, q.1 ≠ id) (fun i => L.length - (intOf i).toNat)
  case atStart => exact ⟨0, by omega, rfl, fun q hq => by simp at hq⟩
  case round =>
    obtain ⟨j, hj, rfl, hq⟩ := hrel
    have HQ := Lib.hid hq
    clear hq
    by_cases hlt : j < L.length
    · obtain ⟨⟨x1, x2, x3, x4⟩, hx⟩ : ∃ p, L[j]? = some p := ⟨L[j], List.getElem?_eq_getElem _⟩
      obtain ⟨b, o, rfl, hbl, q0, _, _, _⟩ := lies4 HL.out hx
      have HX := Lib.hid hx
      clear hx
      by_cases he : x1 = id
      · have e1 : (x1 == id) = true := by simpa using he
        have HE := Lib.hid he
        clear he
        go_wp2
        go_ret
        exact ⟨ret_i (plc_at HX.out HE.out HQ.out).symm, rfl⟩
      · have e1 : (x1 == id) = false := by simpa using he
        go_wp2
        go_round
        case rel =>
          refine ⟨j + 1, by omega, by go_num, fun q hq => ?_⟩
          rw [List.take_add_one, HX.out] at hq
          simp only [Option.toList_some, List.mem_append, List.mem_singleton] at hq
          rcases hq with hq | rfl
          · exact HQ.out q hq
          · exact he
        case measure => simp [intOf]; omega
    · obtain rfl : j = L.length := by omega
      go_wp2
      go_ret
      exact ⟨ret_i (plc_none (fun p hp => HQ.out p (by rwa [List.take_length]))).symm, rfl⟩
set_option maxHeartbeats 1000000 in
theorem rpush_bad (B rb : Nat) (L : List It) (v : Value) (x1 x2 x3 x4 : Int) (w : World) (h : RefAt B w rb L v) (hlen : L.length ≤ 8) (hbad : ¬ may (x1, x2, x3, x4)) :
    Calls Try.prog 12 #[.pointer (some ⟨rb, 0, none⟩), .agg #[.int .i64 x1, .int .i64 x2, .int .i64 x3, .int .i64 x4]] w fun e w' => e = .returned (.int .i64 2) ∧ Below w.heap.size w w' := by
  have hor : x2 < 0 ∨ (0 ≤ x2 ∧ 7 < x2) ∨ (0 ≤ x2 ∧ x2 ≤ 7 ∧ x4 < 0) ∨ (0 ≤ x2 ∧ x2 ≤ 7 ∧ 0 ≤ x4 ∧ 1073741824 < x4) := by
    unfold may at hbad
    dsimp only at hbad
    omega
  have HB := Lib.hid (show Below w.heap.size w (w.alloc (.cells #[.int .i64 x1, .int .i64 x2, .int .i64 x3, .int .i64 x4] 37)) from (Below.refl _ _).alloc (Nat.le_refl _) _)
  clear h hbad
  rcases hor with h2 | ⟨h2, h3⟩ | ⟨h2, h3, h4⟩ | ⟨h2, h3, h4, h5⟩
  all_goals
    go_enter Try.func12, Try.ntmps12
    go_wp2
    go_ret
    exact ⟨rfl, HB.out⟩
set_option maxHeartbeats 1000000 in
theorem rpush_there (B rb : Nat) (L : List It) (v : Value) (x1 x2 x3 x4 : Int) (w : World) (h : RefAt B w rb L v) (hlen : L.length ≤ 8) (hm : may (x1, x2, x3, x4)) (hh : hasQ L x1 = true ∨ (hasQ L x1 = false ∧ L.length = 8)) :
    Calls Try.prog 12 #[.pointer (some ⟨rb, 0, none⟩), .agg #[.int .i64 x1, .int .i64 x2, .int .i64 x3, .int .i64 x4]] w fun e w' => e = .returned (.int .i64 (if hasQ L x1 = true then 2 else 230)) ∧ Below w.heap.size w w' := by
  obtain ⟨m1, m2, m3, m4⟩ := hm
  dsimp only at m1 m2 m3 m4
  have hb := lt_of_heap h.1
  obtain ⟨W, hW, g1, hbl, hsz⟩ := boxed4 w x1 x2 x3 x4 37
  have hQ := h.below hbl
  have q0 := hQ.c0
  have a0 := cell_of_heap (i := 0) g1 rfl
  have a1 := cell_of_heap (i := 1) g1 rfl
  have a3 := cell_of_heap (i := 3) g1 rfl
  have hf := place_at B rb x1 L v W hQ (by omega)
  obtain ⟨A, c, rfl, _, _⟩ := row_open enc4_len h.2
  have HB := Lib.hid hbl
  rcases hh with hh | ⟨hh, h8⟩
  · obtain ⟨j, p, hj, _, _, hp⟩ := plc_in hh
    rw [if_pos hh]
    rw [hp] at hf
    have HF := Lib.hid hf
    have hpos : (0 : Int) ≤ (j : Int) := by omega
    clear h hh hf hj hp hQ g1
    go_enter Try.func12, Try.ntmps12
    go_wp2_with (go_at_call 25; refine HF.out.mono ?_; rintro e w2 ⟨rfl, rfl⟩)
    go_ret
    exact ⟨rfl, HB.out⟩
  · rw [hh]
    rw [plc_out hh] at hf
    have HF := Lib.hid hf
    have e8 : (8 : Int) ≤ (L.length : Int) := by omega
    clear h hh hf hQ g1 h8
    simp only [Bool.false_eq_true, if_false]
    go_enter Try.func12, Try.ntmps12
    go_wp2_with (go_at_call 25; refine HF.out.mono ?_; rintro e w2 ⟨rfl, rfl⟩)
    go_ret
    exact ⟨rfl, HB.out⟩
set_option maxHeartbeats 2000000 in
theorem rpush_go (B rb : Nat) (L : List It) (v : Value) (x1 x2 x3 x4 : Int) (w : World) (h : RefAt B w rb L v) (hB : B ≤ w.heap.size) (hlen : L.length < 8) (hm : may (x1, x2, x3, x4)) (hh : hasQ L x1 = false) :
    Calls Try.prog 12 #[.pointer (some ⟨rb, 0, none⟩), .agg #[.int .i64 x1, .int .i64 x2, .int .i64 x3, .int .i64 x4]] w fun e w' => e = .returned (.int .i64 0) ∧ ∃ v', RefAt B w' rb (L ++ [(x1, x2, x3, x4)]) v' ∧ Fr (fun k => k = rb ∨ v.ownBlock = some k) w w' ∧ ∀ g, v'.ownBlock = some g → v.ownBlock = some g ∨ w.heap.size ≤ g := by
  obtain ⟨m1, m2, m3, m4⟩ := hm
  dsimp only at m1 m2 m3 m4
  have hb := lt_of_heap h.1
  obtain ⟨w2, hW, g1, hbl, hsz⟩ := boxed4 w x1 x2 x3 x4 37
  have hQ := h.below hbl
  have q2 := hQ.c0
  have hf := place_at B rb x1 L v w2 hQ (by omega)
  rw [plc_out hh] at hf
  obtain ⟨A, c, rfl, hlc, hcm⟩ := row_open enc4_len h.2
  have HB2 := Lib.hid hbl
  have HF := Lib.hid hf
  have Q2 := Lib.hid hQ
  have h8 : (L.length : Int) < 8 := by omega
  have a0 := cell_of_heap (i := 0) g1 rfl
  have a1 := cell_of_heap (i := 1) g1 rfl
  have a2 := cell_of_heap (i := 2) g1 rfl
  have a3 := cell_of_heap (i := 3) g1 rfl
  have l2 : w.heap.size < w2.heap.size := by omega
  have lb2 := lt_of_heap Q2.out.1
  have HSZ := Lib.hid hsz
  clear h hh hf hQ g1 hsz
  obtain ⟨i0, hi, hz0, hz1, hz2⟩ := info_parts info37
  go_enter Try.func12, Try.ntmps12
  go_wp2_with (go_at_call 25; refine HF.out.mono ?_; rintro e w' ⟨rfl, rfl⟩)
  obtain ⟨bx, hbx⟩ : ∃ k, w.heap.size = k := ⟨_, rfl⟩
  have HBX := Lib.hid hbx
  rw [hbx] at a0 a1 a2 a3 l2 ⊢
  have hBs : B ≤ ((w2.alloc (.cells #[.int .i64 x1, .int .i64 x2, .int .i64 x3, .int .i64 x4] 37)).drew).heap.size := by
    show B ≤ (w2.alloc (.cells #[.int .i64 x1, .int .i64 x2, .int .i64 x3, .int .i64 x4] 37)).heap.size
    have := HSZ.out
    simp; omega
  have hb3 : Below w2.heap.size w2 ((w2.alloc (.cells #[.int .i64 x1, .int .i64 x2, .int .i64 x3, .int .i64 x4] 37)).drew) := ((Below.refl _ _).alloc (Nat.le_refl _) _).drew
  have hsz3 : ((w2.alloc (.cells #[.int .i64 x1, .int .i64 x2, .int .i64 x3, .int .i64 x4] 37)).drew).heap.size = w2.heap.size + 1 := by
    show (w2.alloc (.cells #[.int .i64 x1, .int .i64 x2, .int .i64 x3, .int .i64 x4] 37)).heap.size = _
    simp
  have HS3 := Lib.hid hsz3
  have H3 := Lib.hid hb3
  have HBs := Lib.hid hBs
  clear hsz3 hb3 hBs hbx hbl hW
  go_region_law ((refine step_append_at _ (by rfl) _ _ _ (by rfl) B 37 i0 _ 4 32 Try.underlying27 hi hz0 hz1 hz2 rfl (by omega) (.slice A L.length c) L.length (cellsK enc4 L) (by rfl) (Q2.out.2.alloc _) ⟨w2.heap.size, 0, none⟩ 1 1 [.int .i64 x1, .int .i64 x2, .int .i64 x3, .int .i64 x4] (by rfl) (by rfl) (World.news_of_block (heap_alloc_new w2 _)) (by simp [Value.oneCell']) (by unfold maxLen; omega) (by omega) HBs.out ?_; intro vb wb hownb hgrowb hnilb hlocb; have hf2 := Fr.grow (S := fun k => (Value.slice A L.length c).ownBlock = some k) H3.out hgrowb (fun i hi => .inl hi); have k1 := hf2.cell q2 lb2 (fun e => Q2.out.ne rb e rfl); have kf := hf2.frozen Q2.out.f0 lb2 (fun e => Q2.out.ne rb e rfl); obtain ⟨A', c', rfl, hlc', hcm'⟩ := row_open enc4_len hownb))
  all_goals
    have hnb : ∀ g, (Value.slice A' (L.length + 1) c').ownBlock = some g → g ≠ rb := fun g hg => by
      rcases hlocb with e | e
      · rw [hg] at e; exact Q2.out.ne g e.symm
      · rw [hg, HS3.out] at e; cases e; omega
    have hrow2 : wb.ownsRow B 37 4 (.slice A' (L.length + 1) c') (L ++ [(x1, x2, x3, x4)]).length (cellsK enc4 (L ++ [(x1, x2, x3, x4)])) := by
      rw [cellsK_append, cellsK_one, List.length_append]
      exact hownb
    have HB := Lib.hid (Q2.out.store hf2 (fun e => Q2.out.ne rb e rfl) hrow2 hnb)
    have HLOC := Lib.hid (show ∀ g, (Value.slice A' (L.length + 1) c').ownBlock = some g → (Value.slice A L.length c).ownBlock = some g ∨ bx ≤ g from fun g hg => by
      rcases hlocb with e | e
      · exact .inl (by rw [← e]; exact hg)
      · rw [hg, HS3.out] at e; cases e; exact .inr (by have := HSZ.out; have := HBX.out; omega))
    clear hownb hgrowb hnilb hlocb hf2 hnb hrow2
    go_wp2
    go_ret
    exact ⟨rfl, _, HB.out.1, ((Fr.of_below HB2.out).mono (fun _ h => h.elim)).trans (HB.out.2.mono (fun k hk => by rcases hk with e | e; exact .inr e; exact .inl e)), fun g hg => (HLOC.out g hg).imp id (fun h => by rw [HBX.out]; exact h)⟩
theorem rpush_at (B rb : Nat) (L : List It) (v : Value) (x1 x2 x3 x4 : Int) (w : World) (h : RefAt B w rb L v) (hB : B ≤ w.heap.size) (hlen : L.length ≤ 8) :
    Calls Try.prog 12 #[.pointer (some ⟨rb, 0, none⟩), .agg #[.int .i64 x1, .int .i64 x2, .int .i64 x3, .int .i64 x4]] w fun e w' => e = .returned (.int .i64 (pushF L (x1, x2, x3, x4)).1) ∧ ∃ v', RefAt B w' rb (pushF L (x1, x2, x3, x4)).2 v' ∧ Fr (fun k => k = rb ∨ v.ownBlock = some k) w w' ∧ ∀ g, v'.ownBlock = some g → v.ownBlock = some g ∨ w.heap.size ≤ g := by
  by_cases hm : may (x1, x2, x3, x4)
  · by_cases hh : hasQ L x1 = true ∨ (hasQ L x1 = false ∧ L.length = 8)
    · have e : pushF L (x1, x2, x3, x4) = (if hasQ L x1 = true then 2 else 230, L) := by
        unfold pushF
        rcases hh with h1 | ⟨h1, h2⟩
        · rw [if_pos (.inr h1), if_pos h1]
        · rw [if_neg (by intro h; rcases h with h | h; exact h hm; rw [h1] at h; cases h), if_pos h2, h1]; rfl
      rw [e]
      exact (rpush_there B rb L v x1 x2 x3 x4 w h hlen hm hh).mono fun e w' ⟨he, hb⟩ => ⟨he, v, h.below hb, (Fr.of_below hb).mono (fun _ h => h.elim), fun _ h => .inl h⟩
    · have h1 : hasQ L x1 = false := by
        cases e : hasQ L x1
        · rfl
        · exact absurd (.inl e) hh
      have h2 : L.length < 8 := by
        have : ¬ L.length = 8 := fun e => hh (.inr ⟨h1, e⟩)
        omega
      have e : pushF L (x1, x2, x3, x4) = (0, L ++ [(x1, x2, x3, x4)]) := by
        unfold pushF
        rw [if_neg (by intro h; rcases h with h | h; exact h hm; rw [h1] at h; cases h), if_neg (by omega)]
      rw [e]
      exact rpush_go B rb L v x1 x2 x3 x4 w h hB h2 hm h1
  · have e : pushF L (x1, x2, x3, x4) = (2, L) := by
      unfold pushF
      rw [if_pos (.inl hm)]
    rw [e]
    exact (rpush_bad B rb L v x1 x2 x3 x4 w h hlen hm).mono fun e w' ⟨he, hb⟩ => ⟨he, v, h.below hb, (Fr.of_below hb).mono (fun _ h => h.elim), fun _ h => .inl h⟩
end Go.Proofs.Ytcallnhkojgnmaa.Q
