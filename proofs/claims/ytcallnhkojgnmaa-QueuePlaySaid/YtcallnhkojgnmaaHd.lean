/- Head: whose turn it is. Conditions: those that each theorem names. -/
import Derived.Test.YtcallnhkojgnmaaRem
namespace Go.Proofs.Ytcallnhkojgnmaa.Q
open Go.RowKit Go.Sort Go.Shelf
open Go.Proofs.Ytcallnhkojgnmaa.Ma
set_option linter.unusedVariables false
set_option linter.unusedSimpArgs false
abbrev hdF (L : List It) : It := minOf L
theorem head_none (p : Option Addr) (w : World) (h : IsNone w p) : Calls Try.prog 19 #[.pointer p] w fun e w' => e = .returned (.tuple #[.agg #[.int .i64 0, .int .i64 0, .int .i64 0, .int .i64 0], .bool false]) ∧ Below w.heap.size w w' := by
  have h' : IsNone (w.alloc (.cells #[.int .i64 0, .int .i64 0, .int .i64 0, .int .i64 0] 31)) p := by
    rcases h with rfl | ⟨b, rfl, hb, hc⟩
    · exact .inl rfl
    · exact .inr ⟨b, rfl, by simp; omega, (((Below.refl _ w).alloc (Nat.le_refl _) _).cell (p := ⟨b, 0, none⟩) hb).trans hc⟩
  have HN := Lib.hid h'
  clear h h'
  go_enter Try.func19, Try.ntmps19
  go_wp2_with (go_at_call 23; refine (none_true p _ HN.out).mono ?_; rintro e w' ⟨rfl, rfl⟩)
  exact bodyPost_ret (v := .tuple #[.agg #[.int .i64 0, .int .i64 0, .int .i64 0, .int .i64 0], .bool false]) (by simp [results, Try.results19, go_sem]) rfl ⟨rfl, (Below.refl _ _).alloc (Nat.le_refl _) _⟩
theorem head_nil (B b : Nat) (v : Value) (w : World) (h : QAt B w b [] v) : Calls Try.prog 19 #[.pointer (some ⟨b, 0, none⟩)] w fun e w' => e = .returned (.tuple #[.agg #[.int .i64 0, .int .i64 0, .int .i64 0, .int .i64 0], .bool false]) ∧ Below w.heap.size w w' := by
  have hQ := h.below ((Below.refl _ w).alloc (Nat.le_refl _) (.cells #[.int .i64 0, .int .i64 0, .int .i64 0, .int .i64 0] 31))
  have q0 := hQ.c0
  have hb := lt_of_heap h.1
  have q1 := h.c1
  obtain ⟨A, c, rfl, _, _⟩ := row_open enc4_len h.2
  simp only [List.length_nil] at q1 q0
  clear h hQ
  go_enter Try.func19, Try.ntmps19
  go_wp2_with (go_at_call 23; refine (none_at b _ q0).mono ?_; rintro e w' ⟨rfl, rfl⟩)
  exact bodyPost_ret (v := .tuple #[.agg #[.int .i64 0, .int .i64 0, .int .i64 0, .int .i64 0], .bool false]) (by simp [results, Try.results19, go_sem]) rfl ⟨rfl, (Below.refl _ _).alloc (Nat.le_refl _) _⟩
set_option maxHeartbeats 1000000 in
theorem head_at (B b : Nat) (L : List It) (v : Value) (w : World) (h : QAt B w b L v) (h0 : 0 < L.length) (hlen : L.length ≤ 8) : Calls Try.prog 19 #[.pointer (some ⟨b, 0, none⟩)] w fun e w' => ∃ m1 m2 m3 m4, minOf L = (m1, m2, m3, m4) ∧ e = .returned (.tuple #[.agg #[.int .i64 m1, .int .i64 m2, .int .i64 m3, .int .i64 m4], .bool true]) ∧ Below w.heap.size w w' := by
  obtain ⟨W, hW, gW, hbl, hsz⟩ := boxed4 w 0 0 0 0 31
  have hQ := h.below hbl
  have q0 := hQ.c0
  have q1 := hQ.c1
  obtain ⟨A, c, rfl, _, _⟩ := row_open enc4_len h.2
  have hli := row_lies enc4_len hQ.2
  have HB := Lib.hid hbl
  have HL := Lib.hid hli
  have HG := Lib.hid gW
  have e0 : ¬ (L.length : Int) = 0 := by omega
  have e1 : ((L.length : Int) == 0) = false := beq_eq_false_iff_ne.2 e0
  have lw : w.heap.size < W.heap.size := by omega
  clear h hQ hli gW hbl
  go_enter Try.func19, Try.ntmps19
  go_wp2_with (first | (go_at_call 23; refine (none_at b _ q0).mono ?_; rintro e w' ⟨rfl, rfl⟩) | (go_at_call 30; refine (minf_at A c L W HL.out h0 hlen).mono ?_; rintro e w2 ⟨m1, m2, m3, m4, hm, rfl, hb2⟩; have T := Lib.hid ((hb2.block _ lw).trans HG.out); have HMn := Lib.hid hm; have HB2 := Lib.hid (HB.out.trans (hb2.mono (by omega))); have c0 := cell_of_heap (i := 0) T.out rfl; have c1 := cell_of_heap (i := 1) T.out rfl; have c2 := cell_of_heap (i := 2) T.out rfl; have c3 := cell_of_heap (i := 3) T.out rfl; have f0 := free_of_heap (i := 0) T.out (by simp); have f1 := free_of_heap (i := 1) T.out (by simp); have f2 := free_of_heap (i := 2) T.out (by simp); have f3 := free_of_heap (i := 3) T.out (by simp); clear hb2 hm))
  obtain ⟨s1, s2⟩ := set4 T.out (.int .i64 m1) (.int .i64 m2) (.int .i64 m3) (.int .i64 m4)
  generalize ((((w2.setCell ⟨w.heap.size, 0, none⟩ (.int .i64 m1)).setCell ⟨w.heap.size, 1, none⟩ (.int .i64 m2)).setCell ⟨w.heap.size, 2, none⟩ (.int .i64 m3)).setCell ⟨w.heap.size, 3, none⟩ (.int .i64 m4)) = Wf at s1 s2 ⊢
  have r0 := cell_of_heap (i := 0) s1 rfl
  have r1 := cell_of_heap (i := 1) s1 rfl
  have r2 := cell_of_heap (i := 2) s1 rfl
  have r3 := cell_of_heap (i := 3) s1 rfl
  exact bodyPost_ret (v := .tuple #[.agg #[.int .i64 m1, .int .i64 m2, .int .i64 m3, .int .i64 m4], .bool true]) (by simp [results, Try.results19, go_sem, r0, r1, r2, r3]) rfl ⟨m1, m2, m3, m4, HMn.out, rfl, HB2.out.trans (s2.below HB2.out.size (fun k hk => by have e' : k = w.heap.size := hk; omega))⟩
end Go.Proofs.Ytcallnhkojgnmaa.Q
