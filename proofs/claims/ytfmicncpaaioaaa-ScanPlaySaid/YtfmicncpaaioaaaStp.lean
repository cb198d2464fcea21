/- The chapter's scan: each call as a step of what lies; that the statements' own test answers true. Conditions: those that each theorem names. -/
import Derived.Test.YtfmicncpaaioaaaAdv
namespace Go.Proofs.Ytfmicncpaaioaaa.Sc
open Go.RowKit Go.Maps Go.Sort Go.Shelf
open Go.Proofs.Ytfmicncpaaioaaa.Ma
set_option linter.unusedVariables false
set_option linter.unusedSimpArgs false
theorem attF_ok {L : List Ent} {id : Int} (h : Ok L) (hid : I64 id) : Ok (attF L id).2 := by
  unfold attF
  split
  · exact h
  · rename_i h1
    split
    · exact h
    · rename_i h2
      exact h.ins hid (by simpa using h1) (by have := h.len; omega)
theorem detF_ok {L : List Ent} {id : Int} (h : Ok L) : Ok (detF L id).2 := by
  unfold detF
  split
  · exact h.del
  · exact h
theorem serF_ok {L : List Ent} {id : Int} (h : Ok L) : Ok (serF L id).2 := by
  unfold serF
  split
  · exact h.setK
  · exact h
theorem advF_ok {n at_ : Int} {L : List Ent} (h : Ok L) : Ok (advF n at_ L).2.2 := by
  unfold advF
  split
  · exact h.allT
  · exact h
/-- A scan that was made behind W0, and all that has turned since. -/
structure St (W0 w : World) (b bm : Nat) (n a : Int) (L : List Ent) : Prop where
  lies : ScanAt w b bm n a L
  ok : Ok L
  n0 : 0 < n
  n1 : n ≤ 16
  a0 : -1 ≤ a
  a1 : a < n
  hb : W0.heap.size ≤ b
  hm : W0.heap.size ≤ bm
  below : Below W0.heap.size W0 w
section
variable {W0 w : World} {b bm : Nat} {n a : Int} {L L' : List Ent}
theorem St.fr {w' : World} {a' : Int} (h : St W0 w b bm n a L) (hl : ScanAt w' b bm n a' L') (ho : Ok L') (ha : -1 ≤ a') (ha' : a' < n) (hf : Fr (fun k => k = b ∨ k = bm) w w') : St W0 w' b bm n a' L' :=
  ⟨hl, ho, h.n0, h.n1, ha, ha', h.hb, h.hm, h.below.trans (hf.below h.below.size (fun k hk => by have := h.hb; have := h.hm; rcases hk with rfl | rfl <;> omega))⟩
theorem St.other {w' : World} (h : St W0 w b bm n a L) (hb : Below w.heap.size w w') : St W0 w' b bm n a L :=
  ⟨h.lies.kept (Fr.of_below hb) (fun e => e) (fun e => e), h.ok, h.n0, h.n1, h.a0, h.a1, h.hb, h.hm, h.below.trans (hb.mono h.below.size)⟩
theorem St.turn {S : Nat → Prop} {w' : World} (h : St W0 w b bm n a L) (hf : Fr S w w') (hb : ¬ S b) (hm : ¬ S bm) (hS : ∀ k, S k → W0.heap.size ≤ k) : St W0 w' b bm n a L :=
  ⟨h.lies.kept hf hb hm, h.ok, h.n0, h.n1, h.a0, h.a1, h.hb, h.hm, h.below.trans (hf.below h.below.size hS)⟩
theorem St.drewN (h : St W0 w b bm n a L) (m : Nat) : St W0 (w.drewN m) b bm n a L := h.turn (S := fun _ => False) (Fr.drewN _ w m) (fun e => e) (fun e => e) (fun _ e => e.elim)
theorem new_step (W0 w : World) (n : Int) (h0 : 1 ≤ n) (h1 : n ≤ 16) (hB : Below W0.heap.size W0 w) :
    Calls Try.prog 9 #[.int .i64 n] w fun e w' => ∃ b bm, e = .returned (.tuple #[.pointer (some ⟨b, 0, none⟩), .int .i64 0]) ∧ St W0 w' b bm n (-1) [] ∧ Below w.heap.size w w' ∧ w.heap.size ≤ b ∧ w.heap.size ≤ bm :=
  (new_at n w h0 h1).mono fun e w' ⟨b, bm, he, hb, hm, hL, hbl⟩ => ⟨b, bm, he, ⟨hL, Ok.nil, by omega, h1, by omega, by omega, by have := hB.size; omega, by have := hB.size; omega, hB.trans (hbl.mono hB.size)⟩, hbl, hb, hm⟩
theorem att_step {id c : Int} (h : St W0 w b bm n a L) (hv : attF L id = (c, L')) (hid : I64 id) :
    Calls Try.prog 11 #[.pointer (some ⟨b, 0, none⟩), .int .i64 id] w fun e w' => e = .returned (.int .i64 c) ∧ St W0 w' b bm n a L' ∧ Fr (fun k => k = b ∨ k = bm) w w' := by
  have H := attach_at b bm n a id L w h.lies h.ok h.n0 hid
  have ho := attF_ok h.ok hid
  rw [hv] at H ho
  exact H.mono fun e w' ⟨he, ha, hf⟩ => ⟨he, h.fr ha ho h.a0 h.a1 hf, hf⟩
theorem det_step {id c : Int} (h : St W0 w b bm n a L) (hv : detF L id = (c, L')) (hid : I64 id) :
    Calls Try.prog 13 #[.pointer (some ⟨b, 0, none⟩), .int .i64 id] w fun e w' => e = .returned (.int .i64 c) ∧ St W0 w' b bm n a L' ∧ Fr (fun k => k = b ∨ k = bm) w w' := by
  have H := detach_at b bm n a id L w h.lies h.n0 hid
  have ho := detF_ok (id := id) h.ok
  rw [hv] at H ho
  exact H.mono fun e w' ⟨he, ha, hf⟩ => ⟨he, h.fr ha ho h.a0 h.a1 hf, hf⟩
theorem ser_step {id c : Int} (h : St W0 w b bm n a L) (hv : serF L id = (c, L')) (hid : I64 id) :
    Calls Try.prog 15 #[.pointer (some ⟨b, 0, none⟩), .int .i64 id] w fun e w' => e = .returned (.int .i64 c) ∧ St W0 w' b bm n a L' ∧ Fr (fun k => k = b ∨ k = bm) w w' := by
  have H := serve_at b bm n a id L w h.lies h.ok h.n0 hid
  have ho := serF_ok (id := id) h.ok
  rw [hv] at H ho
  exact H.mono fun e w' ⟨he, ha, hf⟩ => ⟨he, h.fr ha ho h.a0 h.a1 hf, hf⟩
theorem adv_step {i c a' : Int} (h : St W0 w b bm n a L) (hv : advF n a L = ((i, c), a', L')) :
    Calls Try.prog 17 #[.pointer (some ⟨b, 0, none⟩)] w fun e w' => e = .returned (.tuple #[.int .i64 i, .int .i64 c]) ∧ St W0 w' b bm n a' L' ∧ Fr (fun k => k = b ∨ k = bm) w w' := by
  unfold advF at hv
  split at hv
  · rename_i hw
    simp only [Prod.mk.injEq] at hv
    obtain ⟨⟨rfl, rfl⟩, rfl, rfl⟩ := hv
    have m0 := Int.emod_nonneg (a + 1) (show n ≠ 0 by have := h.n0; omega)
    have m1 := Int.emod_lt_of_pos (a + 1) h.n0
    exact (adv_go b bm n a L w h.lies h.ok h.n0 h.n1 h.a0 h.a1 hw).mono fun e w' ⟨he, ha, hf⟩ => ⟨he, h.fr ha h.ok.allT (by omega) m1 hf, hf⟩
  · rename_i hw
    simp only [Prod.mk.injEq] at hv
    obtain ⟨⟨rfl, rfl⟩, rfl, rfl⟩ := hv
    exact (adv_wait b bm n a L w h.lies h.ok h.n0 hw).mono fun e w' ⟨he, ha, hf⟩ => ⟨he, h.fr ha h.ok h.a0 h.a1 hf, hf⟩
theorem at_step (h : St W0 w b bm n a L) : Calls Try.prog 21 #[.pointer (some ⟨b, 0, none⟩)] w fun e w' => e = .returned (.int .i64 a) ∧ w = w' := at_at b bm n a L w h.lies h.n0
/-- So many ints lie there. -/
def IsInts (w : World) (B : Nat) (A : Option Addr) (l : List Int) : Prop := ∀ j x, l[j]? = some x → ∃ g, A = some ⟨g, 0, none⟩ ∧ B ≤ g ∧ g < w.heap.size ∧ w.cell? ⟨g, j, none⟩ = some (.int .i64 x) ∧ w.frozen? ⟨g, j, none⟩ = false
theorem wait_step {l : List Int} (h : St W0 w b bm n a L) (hv : idsOf false L = l) :
    Calls Try.prog 20 #[.pointer (some ⟨b, 0, none⟩)] w fun e w' => ∃ A c, e = .returned (.slice A l.length c) ∧ (l.length ≤ c ∧ l.length ≤ 4) ∧ IsInts w' w.heap.size A l ∧ St W0 w' b bm n a L ∧ Below w.heap.size w w' := by
  subst hv
  refine (waiting_at b bm n a L w h.lies h.ok h.n0).mono fun e w' ⟨v, he, hr, hb⟩ => ?_
  obtain ⟨A, c, rfl, hc, _, hi⟩ := ids_cells hr
  have hl := idsOf_le false L L.length
  rw [List.take_length] at hl
  exact ⟨A, c, he, ⟨hc, Nat.le_trans hl h.ok.len⟩, hi, h.other hb, hb⟩
theorem attd_step {l : List Int} (h : St W0 w b bm n a L) (hv : idsOf true L = l) :
    Calls Try.prog 19 #[.pointer (some ⟨b, 0, none⟩)] w fun e w' => ∃ A c, e = .returned (.slice A l.length c) ∧ (l.length ≤ c ∧ l.length ≤ 4) ∧ IsInts w' w.heap.size A l ∧ St W0 w' b bm n a L ∧ Below w.heap.size w w' := by
  subst hv
  refine (attached_at b bm n a L w h.lies h.ok h.n0).mono fun e w' ⟨v, he, hr, hb⟩ => ?_
  obtain ⟨A, c, rfl, hc, _, hi⟩ := ids_cells hr
  have hl := idsOf_le true L L.length
  rw [List.take_length] at hl
  exact ⟨A, c, he, ⟨hc, Nat.le_trans hl h.ok.len⟩, hi, h.other hb, hb⟩
end
theorem IsInts.below {w w' : World} {B : Nat} {A : Option Addr} {l : List Int} (h : IsInts w B A l) {B' : Nat} (hb : Below B' w w') (hB : w.heap.size ≤ B') : IsInts w' B A l := fun j x hx => by
  obtain ⟨g, e, h0, h1, h2, h3⟩ := h j x hx
  exact ⟨g, e, h0, Nat.lt_of_lt_of_le h1 hb.size, (hb.cell (p := ⟨g, j, none⟩) (by show g < B'; omega)).trans h2, (hb.frozen (p := ⟨g, j, none⟩) (by show g < B'; omega)).trans h3⟩
theorem isInts_new (w : World) (l : List Int) : IsInts (w.alloc (.cells (l.map encZ).toArray 3)) w.heap.size (some ⟨w.heap.size, 0, none⟩) l := fun j x hx => by
  have h0 := heap_alloc_new w (.cells (l.map encZ).toArray 3)
  have hj := (List.getElem?_eq_some_iff.1 hx).1
  exact ⟨_, rfl, Nat.le_refl _, by simp, cell_of_heap h0 (by simp [hx, encZ]), free_of_heap h0 (by simpa using hj)⟩
theorem ints_at (B B' : Nat) (A A' : Option Addr) (c c' : Nat) (xs ys : List Int) (w : World) (hx : IsInts w B A xs) (hy : IsInts w B' A' ys) (hl : xs.length ≤ 1000) (hl' : ys.length ≤ 1000) :
    Calls Try.prog 22 #[.slice A xs.length c, .slice A' ys.length c'] w fun e w' => e = .returned (.bool (decide (xs = ys))) ∧ ∃ m, w' = w.drewN m := by
  by_cases hn : xs.length = ys.length
  · have HX := Lib.hid hx
    have HY := Lib.hid hy
    have HN := Lib.hid hn
    rw [← hn]
    clear hx hy hn
    go_enter Try.func22, Try.ntmps22
    go_wp2
    go_loopw [5] (fun i wr => ∃ j m : Nat, j ≤ xs.length ∧ i = .int .i64 j ∧ wr = w.drewN m ∧ xs.take j = ys.take j) (fun i _ => xs.length - (intOf i).toNat)
    case atStart => exact ⟨0, 0, by omega, rfl, rfl, rfl⟩
    case round =>
      obtain ⟨j, m, hj, rfl, hwr, ht⟩ := hrel
      have HWR := Lib.hid hwr
      have HT := Lib.hid ht
      clear ht
      by_cases hlt : j < xs.length
      · obtain ⟨x, e1⟩ : ∃ x, xs[j]? = some x := ⟨xs[j], List.getElem?_eq_getElem _⟩
        obtain ⟨y, e2⟩ : ∃ y, ys[j]? = some y := ⟨ys[j]'(by have := HN.out; omega), List.getElem?_eq_getElem _⟩
        obtain ⟨g, rfl, _, _, q1, _⟩ := HX.out j x e1
        obtain ⟨g', rfl, _, _, q2, _⟩ := HY.out j y e2
        have d1 : wr.cell? ⟨g, j, none⟩ = some (.int .i64 x) := by rw [hwr]; exact q1
        have d2 : wr.cell? ⟨g', j, none⟩ = some (.int .i64 y) := by rw [hwr]; exact q2
        have E1 := Lib.hid e1
        have E2 := Lib.hid e2
        clear q1 q2 e1 e2 hwr
        by_cases he : x = y
        · have e3 : (x != y) = false := by simpa using he
          have e4 : (x == y) = true := by simpa using he
          have HE := Lib.hid he
          clear he
          go_wp2
          go_quiet (fail)
          go_wp2
          go_roundw
          case rel =>
            refine ⟨j + 1, m + nq, by omega, by go_num, by rw [HWR.out]; simp [World.drewN, Nat.add_assoc], ?_⟩
            rw [List.take_add_one, List.take_add_one, HT.out, E1.out, E2.out, HE.out]
          case measure => simp [intOf]; omega
        · have e3 : (x != y) = true := by simpa using he
          have e4 : (x == y) = false := by simpa using he
          have hne : decide (xs = ys) = false := by
            simp only [decide_eq_false_iff_not]
            rintro rfl
            rw [E1.out] at E2
            exact he (Option.some.inj E2.out)
          have HNE := Lib.hid hne
          clear he hne
          go_wp2
          go_quiet (fail)
          go_wp2
          go_ret
          exact ⟨by rw [HNE.out]; rfl, m + nq, by rw [HWR.out]; simp [World.drewN, Nat.add_assoc]⟩
      · obtain rfl : j = xs.length := by omega
        have hne : decide (xs = ys) = true := by
          have := HT.out
          rw [List.take_length, HN.out, List.take_length] at this
          simpa using this
        have HNE := Lib.hid hne
        clear hne
        go_wp2
        go_ret
        exact ⟨by rw [HNE.out]; rfl, m, rfl⟩
  · have hne : decide (xs = ys) = false := by
      simp only [decide_eq_false_iff_not]
      rintro rfl
      exact hn rfl
    rw [hne]
    have e1 : ((xs.length : Int) == (ys.length : Int)) = false := by simp; omega
    clear hne hx hy
    go_enter Try.func22, Try.ntmps22
    go_wp2
    go_ret
    exact ⟨rfl, 0, rfl⟩
/-- Ints of what was just asked, and a list that is built there. -/
theorem ints_step {W0 w : World} {b bm B c c' : Nat} {n a : Int} {L : List Ent} {A : Option Addr} {xs ys : List Int} {r : Bool} (h : St W0 w b bm n a L) (hx : IsInts w B A xs) (hl : xs.length ≤ 1000) (hl' : ys.length ≤ 1000) (hv : decide (xs = ys) = r) :
    Calls Try.prog 22 #[.slice A xs.length c, .slice (some ⟨w.heap.size, 0, none⟩) ys.length c'] (w.alloc (.cells (ys.map encZ).toArray 3)) fun e w' => e = .returned (.bool r) ∧ St W0 w' b bm n a L ∧ Below w.heap.size w w' := by
  subst hv
  have hb : Below w.heap.size w (w.alloc (.cells (ys.map encZ).toArray 3)) := (Below.refl _ _).alloc (Nat.le_refl _) _
  refine (ints_at B w.heap.size A _ c c' xs ys _ (hx.below hb (Nat.le_refl _)) (isInts_new w ys) hl hl').mono ?_
  rintro e w' ⟨he, m, rfl⟩
  exact ⟨he, (h.other hb).drewN m, ⟨hb.os, hb.tape, hb.output, hb.size, hb.block⟩⟩
theorem rides_calls (w : World) : Calls Try.prog 8 #[] w fun e w' => e = .returned (.bool true) ∧ Below w.heap.size w w' := by
  go_enter Try.func8, Try.ntmps8
  go_wp2_with fail
  refine (new_step w w 2 (by omega) (by omega) (Below.refl _ _)).mono ?_
  rintro e w1 ⟨b, bm, rfl, h1, _, _, _⟩
  go_wp2_with fail
  refine (at_step h1).mono ?_
  rintro e w' ⟨rfl, rfl⟩
  go_wp2_with fail
  refine (att_step h1 (id := 5) (c := 0) (L' := [(5, false)]) (by decide) (by decide)).mono ?_
  rintro e w2 ⟨rfl, h2, _⟩
  go_wp2_with fail
  refine (adv_step h2 (i := 0) (c := 0) (a' := 0) (L' := [(5, true)]) (by decide)).mono ?_
  rintro e w3 ⟨rfl, h3, _⟩
  go_wp2_with fail
  refine (att_step h3 (id := 7) (c := 0) (L' := [(5, true), (7, false)]) (by decide) (by decide)).mono ?_
  rintro e w4 ⟨rfl, h4, _⟩
  go_wp2_with fail
  refine (adv_step h4 (i := 0) (c := 271) (a' := 0) (L' := [(5, true), (7, false)]) (by decide)).mono ?_
  rintro e w5 ⟨rfl, h5, _⟩
  go_wp2_with fail
  refine (wait_step h5 (l := [5]) (by decide)).mono ?_
  rintro e w6 ⟨A, c, rfl, ⟨hc, hc4⟩, hi, h6, _⟩
  simp only [List.length_cons, List.length_nil] at hc hc4 ⊢
  go_wp2_with fail
  refine (ints_step (c := c) (c' := 1) h6 (xs := [5]) (ys := [5]) (r := true) hi (by decide) (by decide) (by decide)).mono ?_
  rintro e w7 ⟨rfl, h7, _⟩
  go_wp2_with fail
  refine (ser_step h7 (id := 7) (c := 4) (L' := [(5, true), (7, false)]) (by decide) (by decide)).mono ?_
  rintro e w8 ⟨rfl, h8, _⟩
  go_wp2_with fail
  refine (ser_step h8 (id := 5) (c := 0) (L' := [(5, false), (7, false)]) (by decide) (by decide)).mono ?_
  rintro e w9 ⟨rfl, h9, _⟩
  go_wp2_with fail
  refine (adv_step h9 (i := 1) (c := 0) (a' := 1) (L' := [(5, true), (7, true)]) (by decide)).mono ?_
  rintro e w10 ⟨rfl, h10, _⟩
  go_wp2_with fail
  refine (wait_step h10 (l := [5, 7]) (by decide)).mono ?_
  rintro e w11 ⟨A2, c2, rfl, ⟨hc2, hc42⟩, hi2, h11, _⟩
  simp only [List.length_cons, List.length_nil] at hc2 hc42 ⊢
  go_wp2_with fail
  refine (ints_step (c := c2) (c' := 2) h11 (xs := [5, 7]) (ys := [5, 7]) (r := true) hi2 (by decide) (by decide) (by decide)).mono ?_
  rintro e w12 ⟨rfl, h12, _⟩
  go_wp2_with fail
  refine (det_step h12 (id := 5) (c := 0) (L' := [(7, true)]) (by decide) (by decide)).mono ?_
  rintro e w13 ⟨rfl, h13, _⟩
  go_wp2_with fail
  refine (ser_step h13 (id := 7) (c := 0) (L' := [(7, false)]) (by decide) (by decide)).mono ?_
  rintro e w14 ⟨rfl, h14, _⟩
  go_wp2_with fail
  refine (adv_step h14 (i := 0) (c := 0) (a' := 0) (L' := [(7, true)]) (by decide)).mono ?_
  rintro e w15 ⟨rfl, h15, _⟩
  go_wp2_with fail
  refine (new_bad 17 w15 (by omega)).mono ?_
  rintro e w' ⟨rfl, rfl⟩
  go_wp2_with fail
  refine (attd_step h15 (l := [7]) (by decide)).mono ?_
  rintro e w16 ⟨A3, c3, rfl, ⟨hc3, hc43⟩, hi3, h16, _⟩
  simp only [List.length_cons, List.length_nil] at hc3 hc43 ⊢
  go_wp2_with fail
  refine (ints_step (c := c3) (c' := 1) h16 (xs := [7]) (ys := [7]) (r := true) hi3 (by decide) (by decide) (by decide)).mono ?_
  rintro e w17 ⟨rfl, h17, _⟩
  go_wp2
  go_ret
  exact ⟨rfl, h17.below⟩
/-! ### a scan that is none -/
theorem attach_none (p : Option Addr) (id : Int) (w : World) (h : IsNone w p) : Calls Try.prog 11 #[.pointer p, .int .i64 id] w fun e w' => e = .returned (.int .i64 1) ∧ w = w' := by
  go_enter Try.func11, Try.ntmps11
  go_wp2_with (go_at_call 24; refine (none_true _ _ h).mono ?_; rintro e w' ⟨rfl, rfl⟩)
  go_ret
  exact ⟨rfl, rfl⟩
theorem ask_none (p : Option Addr) (id : Int) (w : World) (h : IsNone w p) : Calls Try.prog 26 #[.pointer p, .int .i64 id] w fun e w' => e = .returned (.int .i64 1) ∧ w = w' := by
  go_enter Try.func26, Try.ntmps26
  go_wp2_with (go_at_call 24; refine (none_true _ _ h).mono ?_; rintro e w' ⟨rfl, rfl⟩)
  go_ret
  exact ⟨rfl, rfl⟩
theorem detach_none (p : Option Addr) (id : Int) (w : World) (h : IsNone w p) : Calls Try.prog 13 #[.pointer p, .int .i64 id] w fun e w' => e = .returned (.int .i64 1) ∧ w = w' := by
  go_enter Try.func13, Try.ntmps13
  go_wp2_with (go_at_call 26; refine (ask_none _ _ _ h).mono ?_; rintro e w' ⟨rfl, rfl⟩)
  go_ret
  exact ⟨rfl, rfl⟩
theorem serve_none (p : Option Addr) (id : Int) (w : World) (h : IsNone w p) : Calls Try.prog 15 #[.pointer p, .int .i64 id] w fun e w' => e = .returned (.int .i64 1) ∧ w = w' := by
  go_enter Try.func15, Try.ntmps15
  go_wp2_with (go_at_call 26; refine (ask_none _ _ _ h).mono ?_; rintro e w' ⟨rfl, rfl⟩)
  go_ret
  exact ⟨rfl, rfl⟩
theorem adv_none (p : Option Addr) (w : World) (h : IsNone w p) : Calls Try.prog 17 #[.pointer p] w fun e w' => e = .returned (.tuple #[.int .i64 0, .int .i64 1]) ∧ w = w' := by
  go_enter Try.func17, Try.ntmps17
  go_wp2_with (go_at_call 24; refine (none_true _ _ h).mono ?_; rintro e w' ⟨rfl, rfl⟩)
  go_ret2
  exact ⟨rfl, rfl⟩
theorem at_none (p : Option Addr) (w : World) (h : IsNone w p) : Calls Try.prog 21 #[.pointer p] w fun e w' => e = .returned (.int .i64 0) ∧ w = w' := by
  go_enter Try.func21, Try.ntmps21
  go_wp2_with (go_at_call 24; refine (none_true _ _ h).mono ?_; rintro e w' ⟨rfl, rfl⟩)
  go_ret
  exact ⟨rfl, rfl⟩
end Go.Proofs.Ytfmicncpaaioaaa.Sc
