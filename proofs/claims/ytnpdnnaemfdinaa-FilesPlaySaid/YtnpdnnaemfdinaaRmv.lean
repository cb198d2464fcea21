/- Remove, New, first. Conditions: those that each theorem names. -/
import Derived.Carry
import Derived.Test.YtnpdnnaemfdinaaPut
namespace Go.Proofs.Ytnpdnnaemfdinaa.F
open Go.RowKit Go.Maps Go.Sort Go.Shelf
open Go.Proofs.Ytnpdnnaemfdinaa.Ma
set_option linter.unusedVariables false
set_option linter.unusedSimpArgs false
theorem setD_nil (s : ByteArray) (D : List De) : setD s [] D = delD s D := rfl
section
variable {X : Nat → Prop} {w : World} {b bm : Nat} {room left : Int} {D : List De}
theorem x_remove (s : ByteArray) (hs : s.size ≤ maxLen) (h : FsX X w b bm room left D) :
    Calls Try.prog 34 #[.pointer (some ⟨b, 0, none⟩), .string s] w fun e w' => e = .returned (.int .i64 (removeF D s).1) ∧ FsX X w' b bm room left (removeF D s).2 ∧ Fr (fun k => ¬ X k) w w' := by
  have HX := Lib.hid h
  have HT := Lib.hid (x_there s 0 hs h)
  obtain ⟨L, h1, h2, rfl⟩ := h.ex
  have H1 := Lib.hid h1
  have H2 := Lib.hid h2
  clear h h1 h2
  unfold removeF
  by_cases h0 : lookD (dn L) s = []
  · rw [if_pos h0]
    have ht : thereD (dn L) s 0 = 4 := by unfold thereD; rw [h0, if_neg (by simp)]
    rw [ht] at HT
    clear ht h0
    go_enter Try.func34, Try.ntmps34
    go_wp2_with (go_at_call 43; refine HT.out.mono ?_; rintro e w' ⟨rfl, rfl⟩)
    go_ret
    exact ⟨rfl, HX.out, Fr.refl _ _⟩
  · rw [if_neg h0]
    have ht : thereD (dn L) s 0 = 0 := by unfold thereD; rw [if_pos (by have := List.length_pos_iff.2 h0; omega)]
    rw [ht] at HT
    clear ht h0
    go_enter Try.func34, Try.ntmps34
    go_wp2_with (first
      | (go_at_call 43; refine HT.out.mono ?_; rintro e w' ⟨rfl, rfl⟩)
      | (go_at_call 40; refine (lay_del H1.out s hs none 0).mono ?_; rintro e w6 ⟨rfl, h6, hf6⟩))
    go_ret
    have := FsX.gone HX.out H1.out H2.out (Below.refl _ _) s h6 hf6
    exact ⟨rfl, this⟩
theorem new_bad (n : Int) (w : World) (h : n < 1 ∨ 4096 < n) : Calls Try.prog 10 #[.int .i64 n] w fun e w' => e = .returned (.tuple #[.pointer none, .int .i64 2]) ∧ w = w' := by
  by_cases h1 : n < 1
  · clear h
    go_enter Try.func10, Try.ntmps10
    go_wp2
    go_ret2
    exact ⟨rfl, rfl⟩
  · have h2 : 4096 < n := by omega
    clear h
    go_enter Try.func10, Try.ntmps10
    go_wp2
    go_ret2
    exact ⟨rfl, rfl⟩
theorem new_at (n : Int) (w : World) (h0 : 1 ≤ n) (h1 : n ≤ 4096) :
    Calls Try.prog 10 #[.int .i64 n] w fun e w' => ∃ b bm, e = .returned (.tuple #[.pointer (some ⟨b, 0, none⟩), .int .i64 0]) ∧ FsX (fun k => k < w.heap.size) w' b bm n (-1) [] ∧ Below w.heap.size w w' := by
  have hmm := @run_makeMap Try.prog
  go_enter Try.func10, Try.ntmps10
  go_wp2
  go_ret2
  have hb : Below w.heap.size w ((w.alloc (.map #[] 0)).alloc (.cells #[.int .i64 n, .int .i64 (-1), .map (some w.heap.size)] 55)) := ((Below.refl _ _).alloc (Nat.le_refl _) _).alloc (by simp) _
  have hown : ((w.alloc (.map #[] 0)).alloc (.cells #[.int .i64 n, .int .i64 (-1), .map (some w.heap.size)] 55)).ownsMap Try.prog 9 hd w.heap.size 0 (F.mk []) := (World.ownsMap_made w Try.prog 9 hd).alloc _
  refine ⟨_, w.heap.size, rfl, ⟨⟨[], ⟨?_, hown, by simp, List.Pairwise.nil, List.Pairwise.nil, ⟨Nat.zero_le _, Nat.zero_le _⟩, by simp [pagesOf], by simp, by simp⟩, by simp, rfl⟩, by omega, by omega, fun k hk => Nat.lt_of_lt_of_le hk hb.size, ⟨by show ((0 : Nat) : Int) ≤ n; omega, h1⟩, ⟨by decide, by decide⟩⟩, hb⟩
  have h1 := heap_alloc_new (w.alloc (.map #[] 0)) (.cells #[.int .i64 n, .int .i64 (-1), .map (some w.heap.size)] 55)
  simpa using h1
def firstL (P : List ByteArray) : ByteArray := P.headD ⟨#[]⟩
theorem first_at (A : Option Addr) (c : Nat) (P : List ByteArray) (w : World) (hL : Lies encS 1 w A P) :
    Calls Try.prog 46 #[.slice A P.length c] w fun e w' => e = .returned (.string (firstL P)) ∧ w = w' := by
  cases P with
  | nil =>
    show Calls Try.prog 46 #[.slice A 0 c] w _
    go_enter Try.func46, Try.ntmps46
    go_wp2
    go_ret
    exact ⟨rfl, rfl⟩
  | cons y r =>
    obtain ⟨g, o, rfl, hg, hc⟩ := hL 0 y rfl
    have q0 := hc 0 _ rfl
    simp only [Nat.zero_mul, Nat.add_zero] at q0
    show Calls Try.prog 46 #[.slice (some ⟨g, o, none⟩) (r.length + 1) c] w fun e w' => e = .returned (.string y) ∧ w = w'
    clear hL hc
    have hn : ¬ ((r.length + 1 : Nat) : Int) = 0 := by omega
    have hn1 : (0 : Int) < ((r.length + 1 : Nat) : Int) := by omega
    generalize r.length + 1 = n at hn hn1
    go_enter Try.func46, Try.ntmps46
    go_wp2
    go_ret
    exact ⟨rfl, rfl⟩
end
end Go.Proofs.Ytnpdnnaemfdinaa.F
