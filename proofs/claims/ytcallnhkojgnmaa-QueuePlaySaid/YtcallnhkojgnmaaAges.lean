/- QueueAges, walked. Conditions: the arguments are of their kinds. -/
import Derived.Test.YtcallnhkojgnmaaFull
namespace Go.Proofs.Ytcallnhkojgnmaa.Q
open Go.RowKit Go.Sort Go.Shelf
open Go.Proofs.Ytcallnhkojgnmaa.Ma
set_option linter.unusedVariables false
set_option linter.unusedSimpArgs false
theorem rankZ_in {x1 x2 x3 x4 : Int} (h2 : 0 ≤ x2) (h3 : x2 ≤ 1000) (h4 : 0 ≤ x4) (h5 : x4 ≤ 1073741824) : rankZ (x1, x2, x3, x4) = x2 + x4 / 4 := by
  unfold rankZ
  have e1 : x4.tdiv 4 = x4 / 4 := Int.tdiv_eq_ediv_of_nonneg h4
  have e2 : wrap64 (x4 / 4) = x4 / 4 := IntWalk.wrap64_in _ ⟨by omega, by omega⟩
  have e3 : wrap64 (x2 + x4 / 4) = x2 + x4 / 4 := IntWalk.wrap64_in _ ⟨by omega, by omega⟩
  dsimp only
  rw [e1, e2, e3]
theorem ages_min {i0 i1 a c : Int} (h0 : 0 ≤ a ∧ a < 8) (h1 : 0 ≤ c ∧ c < 8) (k : Nat) (hk : k ≤ 1000) : minOf [(i0, a, 0, 32 + (k : Int)), (i1, c, 0, (k : Int))] = (i0, a, 0, 32 + (k : Int)) := by
  show (if cf (i1, c, 0, (k : Int)) (i0, a, 0, 32 + (k : Int)) < 0 then _ else _) = _
  rw [if_neg]
  rw [cf_neg]
  unfold Ahead
  rw [rankZ_in (by omega) (by omega) (by omega) (by omega), rankZ_in (by omega) (by omega) (by omega) (by omega)]
  omega
theorem push_free {L : List It} {x1 x2 x3 x4 : Int} (hm : may (x1, x2, x3, x4)) (hh : ∀ p ∈ L, p.1 ≠ x1) (h8 : L.length < 8) : pushF L (x1, x2, x3, x4) = (0, L ++ [(x1, x2, x3, x4)]) := by
  unfold pushF
  rw [if_neg, if_neg (by omega)]
  rintro (e | e)
  · exact e hm
  · obtain ⟨p, hp, he⟩ := hasQ_iff.1 e
    exact hh p hp he
theorem age_two {i0 i1 a c : Int} (k : Nat) (hk : k ≤ 1000) : ageF [(i0, a, 0, 32 + (k : Int)), (i1, c, 0, (k : Int))] = [(i0, a, 0, 32 + ((k + 1 : Nat) : Int)), (i1, c, 0, ((k + 1 : Nat) : Int))] := by
  simp [ageF, tick]
  omega
theorem age_one {i0 a : Int} (k : Nat) (hk : k ≤ 1000) : ageF [(i0, a, 0, (k : Int))] = [(i0, a, 0, ((k + 1 : Nat) : Int))] := by
  simp [ageF, tick]
  omega
theorem boxed22 (w : World) (A B : Obj) : ∃ W, (w.alloc A).alloc B = W ∧ W.heap[w.heap.size]? = some A ∧ W.heap[w.heap.size + 1]? = some B ∧ W.heap.size = w.heap.size + 2 ∧ Below w.heap.size w W := by
  have s1 : (w.alloc A).heap.size = w.heap.size + 1 := by simp
  refine ⟨_, rfl, ?_, ?_, by simp, ((Below.refl _ _).alloc (Nat.le_refl _) _).alloc (by simp) _⟩
  · rw [Below.heap_alloc _ _ _ (by omega)]
    exact heap_alloc_new w A
  · have := heap_alloc_new (w.alloc A) B
    rwa [s1] at this
set_option maxRecDepth 100000 in
set_option maxHeartbeats 2000000 in
theorem ages_same (p0 p1 i : Int) (more : Int) (w : World) : Calls Try.prog 6 #[.agg #[.int .u8 p0, .int .u8 p1], .agg #[.int .i64 i, .int .i64 i], .int .u16 more] w fun e w' => e = .returned (.bool true) ∧ Below w.heap.size w w' := by
  have e1 : (i == i) = true := by simp
  have hb : Below w.heap.size w ((w.alloc (.cells #[.int .u8 p0, .int .u8 p1] 53)).alloc (.cells #[.int .i64 i, .int .i64 i] 54)) := ((Below.refl _ _).alloc (Nat.le_refl _) _).alloc (by simp) _
  have HB := Lib.hid hb
  clear hb
  go_enter Try.func6, Try.ntmps6
  go_wp2_with (go_at_call 9; refine (waits_calls _).mono ?_; rintro e w7 ⟨rfl, hb7⟩)
  go_ret
  exact ⟨rfl, HB.out.trans (hb7.mono HB.out.size)⟩
set_option maxRecDepth 100000 in
set_option maxHeartbeats 4000000 in
theorem ages_at (p0 p1 i0 i1 more : Int) (hp0 : 0 ≤ p0 ∧ p0 ≤ 255) (hp1 : 0 ≤ p1 ∧ p1 ≤ 255) (hne : i0 ≠ i1) (hmo : 0 ≤ more ∧ more ≤ 65535) (w : World) : Calls Try.prog 6 #[.agg #[.int .u8 p0, .int .u8 p1], .agg #[.int .i64 i0, .int .i64 i1], .int .u16 more] w fun e w' => e = .returned (.bool true) ∧ Below w.heap.size w w' := by
  have e1 : (i0 == i1) = false := by simpa using hne
  have v1 : IntKind.i64.wrap p0 = p0 := IntWalk.i64_in _ ⟨by omega, by omega⟩
  have v2 : IntKind.i64.wrap p1 = p1 := IntWalk.i64_in _ ⟨by omega, by omega⟩
  have v3 : IntKind.i64.wrap more = more := IntWalk.i64_in _ ⟨by omega, by omega⟩
  obtain ⟨a, ha⟩ : ∃ a, p0 % 8 = a := ⟨_, rfl⟩
  obtain ⟨c, hc⟩ : ∃ c, p1 % 8 = c := ⟨_, rfl⟩
  obtain ⟨r, hr⟩ : ∃ r : Nat, more % 200 = (r : Int) := ⟨(more % 200).toNat, by omega⟩
  have r2 : r < 200 := by omega
  have ha2 : 0 ≤ a ∧ a < 8 := by omega
  have hc2 : 0 ≤ c ∧ c < 8 := by omega
  have v4 : p0.tmod 8 = a := by rw [← ha]; exact Int.tmod_eq_emod_of_nonneg hp0.1
  have v5 : p1.tmod 8 = c := by rw [← hc]; exact Int.tmod_eq_emod_of_nonneg hp1.1
  have v6 : more.tmod 200 = (r : Int) := by rw [← hr]; exact Int.tmod_eq_emod_of_nonneg hmo.1
  have v7 : IntKind.i64.wrap a = a := IntWalk.i64_in _ ⟨by omega, by omega⟩
  have v8 : IntKind.i64.wrap c = c := IntWalk.i64_in _ ⟨by omega, by omega⟩
  have v9 : IntKind.i64.wrap (r : Int) = (r : Int) := IntWalk.i64_in _ ⟨by omega, by omega⟩
  have P1 := Lib.hid (push_free (L := []) (x1 := i0) (x2 := a) (x3 := 0) (x4 := 0) (by unfold may; dsimp only; omega) (fun p hp => by cases hp) (by simp))
  have P2 := Lib.hid (push_free (L := [(i0, a, 0, 32)]) (x1 := i1) (x2 := c) (x3 := 0) (x4 := 0) (by unfold may; dsimp only; omega) (fun p hp => by simp at hp; subst hp; exact hne) (by simp))
  have HA2 := Lib.hid ha2
  have HC2 := Lib.hid hc2
  clear ha hc hr hp0 hp1 hmo hne
  obtain ⟨W, hW, g1, g2, hsz, hbW⟩ := boxed22 w (.cells #[.int .u8 p0, .int .u8 p1] 53) (.cells #[.int .i64 i0, .int .i64 i1] 54)
  have k0 := cell_of_heap (i := 0) g1 rfl
  have k1 := cell_of_heap (i := 1) g1 rfl
  have k2 := cell_of_heap (i := 0) g2 rfl
  have k3 := cell_of_heap (i := 1) g2 rfl
  have HB := Lib.hid hbW
  have HS := Lib.hid hsz
  have G1 := Lib.hid g1
  have G2 := Lib.hid g2
  clear hbW g1 g2
  go_enter Try.func6, Try.ntmps6
  go_wp2_with fail
  refine (new_step W W (Below.refl _ _)).mono ?_
  rintro e w1 ⟨rfl, h1, _⟩
  obtain ⟨b, hb⟩ : ∃ b, W.heap.size = b := ⟨_, rfl⟩
  rw [hb] at h1 ⊢
  have HBB := Lib.hid hb
  obtain ⟨bx, hbx⟩ : ∃ k, w.heap.size = k := ⟨_, rfl⟩
  have HBX := Lib.hid hbx
  have lx : bx < W.heap.size := by omega
  have lx1 : bx + 1 < W.heap.size := by omega
  rw [hbx] at k0 k1 k2 k3 ⊢
  have keep : ∀ {w' : World} {L : List It} {v : Value}, St W w' b L v → (w'.cell? ⟨bx, 0, none⟩ = some (.int .u8 p0) ∧ w'.cell? ⟨bx, 1, none⟩ = some (.int .u8 p1)) ∧ w'.cell? ⟨bx + 1, 0, none⟩ = some (.int .i64 i0) ∧ w'.cell? ⟨bx + 1, 1, none⟩ = some (.int .i64 i1) := fun h =>
    ⟨⟨(h.below.cell (p := ⟨bx, 0, none⟩) lx).trans k0, (h.below.cell (p := ⟨bx, 1, none⟩) lx).trans k1⟩, (h.below.cell (p := ⟨bx + 1, 0, none⟩) lx1).trans k2, (h.below.cell (p := ⟨bx + 1, 1, none⟩) lx1).trans k3⟩
  have KP : Hid (∀ (w' : World) (L : List It) (v : Value), St W w' b L v → (w'.cell? ⟨bx, 0, none⟩ = some (.int .u8 p0) ∧ w'.cell? ⟨bx, 1, none⟩ = some (.int .u8 p1)) ∧ w'.cell? ⟨bx + 1, 0, none⟩ = some (.int .i64 i0) ∧ w'.cell? ⟨bx + 1, 1, none⟩ = some (.int .i64 i1)) := fun _ _ _ h => keep h
  clear keep hb hbx hW k0 k1 k2 k3
  obtain ⟨⟨j0, j1⟩, j2, j3⟩ := KP.out _ _ _ h1
  have H1 := Lib.hid h1
  clear h1
  go_wp2_with fail
  refine (push_step H1.out i0 a 0 0 P1.out).mono ?_
  rintro e w2 ⟨rfl, v2, h2, _⟩
  have H2 := Lib.hid h2
  clear h2 j0 j1 j2 j3
  go_wp2_with fail
  go_loopw [8] (fun i wr => ∃ k : Nat, k ≤ 32 ∧ i = .int .i64 k ∧ St W wr b [(i0, a, 0, (k : Int))] v2) (fun i _ => 32 - (intOf i).toNat)
  case atStart => exact ⟨0, by omega, rfl, H2.out⟩
  case round =>
    obtain ⟨k, hk, rfl, hS⟩ := hrel
    by_cases hlt : k < 32
    · have HA := Lib.hid (age_step hS (age_one k (by omega)))
      clear hS
      go_wp2_with (go_at_call 15; refine HA.out.mono ?_; rintro e w3 ⟨rfl, h3, _⟩)
      go_roundw
      case rel => exact ⟨k + 1, by omega, by go_num, h3⟩
      case measure => simp [intOf]; omega
    · obtain rfl : k = 32 := by omega
      obtain ⟨⟨j0, j1⟩, j2, j3⟩ := KP.out _ _ _ hS
      have H3 := Lib.hid hS
      clear hS
      go_wp2_with fail
      refine (push_step H3.out i1 c 0 0 P2.out).mono ?_
      rintro e w4 ⟨rfl, v4, h4, _⟩
      have H4 := Lib.hid h4
      clear h4 j0 j1 j2 j3
      go_wp2_with fail
      go_loopw [9, 10, 11] (fun i _ _ wr => ∃ k : Nat, k ≤ r ∧ i = .int .i64 k ∧ St W wr b [(i0, a, 0, 32 + (k : Int)), (i1, c, 0, (k : Int))] v4) (fun i _ _ _ => r - (intOf i).toNat)
      case atStart => exact ⟨0, by omega, rfl, H4.out⟩
      case round =>
        obtain ⟨k, hk, rfl, hS⟩ := hrel
        have HH := Lib.hid (head_step hS (by simp) (ages_min HA2.out HC2.out k (by omega)))
        have e5 : (i0 != i0) = false := by simp
        have e6 : (i0 == i0) = true := by simp
        clear hS
        by_cases hlt : k < r
        · go_wp2_with (first
            | (go_at_call 19; refine HH.out.mono ?_; rintro e w5 ⟨rfl, h5, hb5⟩; obtain ⟨⟨j0, j1⟩, j2, j3⟩ := KP.out _ _ _ h5; have H5 := Lib.hid h5; have l5 : bx + 1 < w5.heap.size := Nat.lt_of_lt_of_le lx1 h5.below.size; clear h5)
            | (go_at_call 15; refine (age_step (H5.out.other ((Below.refl _ _).alloc (Nat.le_refl _) _)) (age_two k (by omega))).mono ?_; rintro e w6 ⟨rfl, h6, _⟩))
          go_roundw
          case rel => exact ⟨k + 1, by omega, by go_num, h6⟩
          case measure => simp [intOf]; omega
        · obtain rfl : k = r := by omega
          go_wp2_with (first
            | (go_at_call 19; refine HH.out.mono ?_; rintro e w5 ⟨rfl, h5, hb5⟩; obtain ⟨⟨j0, j1⟩, j2, j3⟩ := KP.out _ _ _ h5; have H5 := Lib.hid h5; have l5 : bx + 1 < w5.heap.size := Nat.lt_of_lt_of_le lx1 h5.below.size; clear h5)
            | (go_at_call 9; refine (waits_calls _).mono ?_; rintro e w7 ⟨rfl, hb7⟩))
          go_ret
          have hfin : Below W.heap.size W w7 := ((H5.out.below.alloc H5.out.below.size _).trans (hb7.mono (by have := H5.out.below.size; simp; omega)))
          rw [← HBX.out]
          exact ⟨rfl, HB.out.trans (hfin.mono (by have := HS.out; omega))⟩
end Go.Proofs.Ytcallnhkojgnmaa.Q
