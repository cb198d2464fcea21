/- QueueFull, walked. Conditions: the arguments are of their kinds. -/
import Derived.Test.YtcallnhkojgnmaaOpn
namespace Go.Proofs.Ytcallnhkojgnmaa.Q
open Go.RowKit Go.Sort Go.Shelf
open Go.Proofs.Ytcallnhkojgnmaa.Ma
set_option linter.unusedVariables false
set_option linter.unusedSimpArgs false
theorem u8_wf {x : Int} (h : (Lit.int .u8 x).wf = true) : 0 ≤ x ∧ x ≤ 255 := by
  simp only [Lit.wf, IntKind.min, IntKind.max, IntKind.signed, IntKind.bits] at h
  simp at h
  omega
def firstN (k : Nat) : List It := (List.range k).map fun (i : Nat) => ((i : Int), 0, 0, 0)
theorem full_push : ∀ k : Fin 9, pushF (firstN k) (((k : Nat) : Int), 0, 0, 0) = if (k : Nat) < 8 then (0, firstN (k + 1)) else (230, firstN 8) := by decide +kernel
theorem full_push8 (k : Nat) (h : 8 ≤ k) : pushF (firstN 8) ((k : Int), 0, 0, 0) = (230, firstN 8) := by
  unfold pushF
  rw [if_neg, if_pos (by decide)]
  rintro (e | e)
  · exact e (by unfold may; dsimp only; omega)
  · obtain ⟨p, hp, he⟩ := hasQ_iff.1 e
    unfold firstN at hp
    obtain ⟨i, hi, rfl⟩ := List.mem_map.1 hp
    have := List.mem_range.1 hi
    have he' : (i : Int) = (k : Int) := he
    omega
def tailQ (m j : Nat) : List It := (firstN m).eraseIdx j ++ [(99, 0, 0, 0)]
def tailOk (m j : Nat) : Bool :=
  decide (remF (firstN m) (j : Int) = (0, (firstN m).eraseIdx j)) && (decide (pushF ((firstN m).eraseIdx j) (99, 0, 0, 0) = (0, tailQ m j)) && (decide (Order (firstN m)) && (decide (Order (tailQ m j)) && (decide ((firstN m).length = m) && (decide ((tailQ m j).length = m) && decide (remF (tailQ m j) (j : Int) = (4, tailQ m j)))))))
theorem full_all : ∀ m ∈ [6, 7, 8], ∀ j ∈ List.range m, tailOk m j = true := by decide +kernel
theorem full_tail (m j : Nat) (h6 : 6 ≤ m) (h8 : m ≤ 8) (hj : j < m) : remF (firstN m) (j : Int) = (0, (firstN m).eraseIdx j) ∧ pushF ((firstN m).eraseIdx j) (99, 0, 0, 0) = (0, tailQ m j) ∧ Order (firstN m) ∧ Order (tailQ m j) ∧ (firstN m).length = m ∧ (tailQ m j).length = m ∧ remF (tailQ m j) (j : Int) = (4, tailQ m j) := by
  have := full_all m (by simp; omega) j (List.mem_range.2 hj)
  unfold tailOk at this
  simp only [Bool.and_eq_true, decide_eq_true_eq] at this
  exact this
set_option maxRecDepth 100000 in
set_option maxHeartbeats 2000000 in
theorem full_at (x y : Int) (hx : 0 ≤ x ∧ x ≤ 255) (hy : 0 ≤ y ∧ y ≤ 255) (w : World) : Calls Try.prog 8 #[.int .u8 x, .int .u8 y] w fun e w' => e = .returned (.bool true) ∧ Below w.heap.size w w' := by
  have x1 : IntKind.i64.wrap x = x := IntWalk.i64_in _ ⟨by omega, by omega⟩
  have y1 : IntKind.i64.wrap y = y := IntWalk.i64_in _ ⟨by omega, by omega⟩
  obtain ⟨d, hd⟩ : ∃ d, x % 5 = d := ⟨_, rfl⟩
  have hd0 : 0 ≤ d ∧ d < 5 := by omega
  have x2 : x.tmod 5 = d := by rw [← hd]; exact Int.tmod_eq_emod_of_nonneg hx.1
  have x3 : IntKind.i64.wrap d = d := IntWalk.i64_in _ ⟨by omega, by omega⟩
  obtain ⟨n, hn⟩ : ∃ n : Nat, 6 + d = (n : Int) := ⟨(6 + d).toNat, by omega⟩
  have x4 : IntKind.i64.wrap (6 + d) = (n : Int) := by rw [hn]; exact IntWalk.i64_in _ ⟨by omega, by omega⟩
  have n6 : 6 ≤ n := by omega
  have n10 : n ≤ 10 := by omega
  obtain ⟨m, hm⟩ : ∃ m : Nat, m = min n 8 := ⟨_, rfl⟩
  have x5 : min (n : Int) 8 = (m : Int) := by omega
  have m6 : 6 ≤ m := by omega
  have m8 : m ≤ 8 := by omega
  have hmz : (m : Int) ≠ 0 := by omega
  obtain ⟨j, hj⟩ : ∃ j : Nat, y % (m : Int) = (j : Int) := ⟨(y % (m : Int)).toNat, by have := Int.emod_nonneg y hmz; omega⟩
  have jm : j < m := by have := Int.emod_lt_of_pos y (show (0 : Int) < (m : Int) by omega); omega
  have y2 : y.tmod (m : Int) = (j : Int) := by rw [← hj]; exact Int.tmod_eq_emod_of_nonneg hy.1
  have y3 : IntKind.i64.wrap (j : Int) = (j : Int) := IntWalk.i64_in _ ⟨by omega, by omega⟩
  have HT := Lib.hid (full_tail m j m6 m8 jm)
  have HM := Lib.hid hm
  clear hd hd0 hn hm hj hx hy
  go_enter Try.func8, Try.ntmps8
  go_wp2_with fail
  refine (new_step w w (Below.refl _ _)).mono ?_
  rintro e w1 ⟨rfl, h1, _⟩
  obtain ⟨b, hb⟩ : ∃ b, w.heap.size = b := ⟨_, rfl⟩
  rw [hb] at h1 ⊢
  go_wp2_with fail
  go_loopw [7, 8] (fun i _ wr => ∃ (k : Nat) (v : Value), k ≤ n ∧ i = .int .i64 k ∧ St w wr b (firstN (min k 8)) v) (fun i _ _ => n - (intOf i).toNat)
  case atStart => exact ⟨0, _, by omega, rfl, h1⟩
  case round =>
    obtain ⟨k, v, hk, rfl, hS⟩ := hrel
    by_cases hlt : k < n
    · by_cases h8 : k < 8
      · have hp := full_push ⟨k, by omega⟩
        rw [if_pos h8] at hp
        rw [show min k 8 = k by omega] at hS
        have HP := Lib.hid (push_step hS (k : Int) 0 0 0 hp)
        clear hp hS h1
        go_wp2_with (go_at_call 11; refine HP.out.mono ?_; rintro e w2 ⟨rfl, v2, h2, _⟩)
        go_roundw
        case rel => exact ⟨k + 1, v2, by omega, by go_num, by rw [show min (k + 1) 8 = k + 1 by omega]; exact h2⟩
        case measure => simp [intOf]; omega
      · have hp := full_push8 k (by omega)
        rw [show min k 8 = 8 by omega] at hS
        have HP := Lib.hid (push_step hS (k : Int) 0 0 0 hp)
        have h8' : ¬ (k : Int) < 8 := by omega
        clear hp hS h1
        go_wp2_with (go_at_call 11; refine HP.out.mono ?_; rintro e w2 ⟨rfl, v2, h2, _⟩)
        go_roundw
        case rel => exact ⟨k + 1, v2, by omega, by go_num, by rw [show min (k + 1) 8 = 8 by omega]; exact h2⟩
        case measure => simp [intOf]; omega
    · obtain rfl : k = n := by omega
      rw [← HM.out] at hS
      obtain ⟨t1, t2, t3, t4, t5, t6, t7⟩ := HT.out
      have HS := Lib.hid hS
      have T1 := Lib.hid t1
      have T2 := Lib.hid t2
      have T3 := Lib.hid t3
      have T4 := Lib.hid t4
      have T7 := Lib.hid t7
      clear hS t1 t2 t3 t4 t7 h1
      go_wp2_with fail
      refine (items_step HS.out (List.Perm.refl _) T3.out).mono ?_
      rintro e w2 ⟨v2, rfl, hr2, h2, _⟩
      obtain ⟨A2, c2, rfl, _, _⟩ := row_open enc4_len hr2
      clear hr2
      rw [t5]
      go_wp2_with fail
      refine (rem_step h2 T1.out).mono ?_
      rintro e w3 ⟨rfl, v3, h3, _, _⟩
      go_wp2_with fail
      refine (push_step h3 99 0 0 0 T2.out).mono ?_
      rintro e w4 ⟨rfl, v4, h4, _⟩
      go_wp2_with fail
      refine (items_step h4 (List.Perm.refl _) T4.out).mono ?_
      rintro e w5 ⟨v5, rfl, hr5, h5, _⟩
      obtain ⟨A5, c5, rfl, _, _⟩ := row_open enc4_len hr5
      clear hr5
      rw [t6]
      go_wp2_with fail
      refine (rem_step h5 T7.out).mono ?_
      rintro e w6 ⟨rfl, v6, h6, _, _⟩
      go_wp2_with fail
      refine (waits_calls _).mono ?_
      rintro e w7 ⟨rfl, hb7⟩
      go_wp2
      go_ret
      rw [← hb]
      exact ⟨rfl, h6.below.trans (hb7.mono h6.below.size)⟩
theorem full_wf (x y : Int) (w : World) (hx : (Lit.int .u8 x).wf = true) (hy : (Lit.int .u8 y).wf = true) : Calls Try.prog 8 #[.int .u8 x, .int .u8 y] w fun e w' => e = .returned (.bool true) ∧ Below w.heap.size w w' := full_at x y (u8_wf hx) (u8_wf hy) w
end Go.Proofs.Ytcallnhkojgnmaa.Q
