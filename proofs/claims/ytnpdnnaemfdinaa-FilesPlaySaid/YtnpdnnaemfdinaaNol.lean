/- FilesNone, walked. Conditions: the argument is of its kind. -/
import Derived.Test.YtnpdnnaemfdinaaNon
namespace Go.Proofs.Ytnpdnnaemfdinaa.F
open Go.RowKit Go.Maps Go.Sort Go.Shelf
open Go.Proofs.Ytnpdnnaemfdinaa.Ma
set_option linter.unusedVariables false
set_option linter.unusedSimpArgs false
theorem lies_act {W : World} {g : Nat} {a : Ac} {C : Array Value} {t : TypeId} {fz : Nat × Nat} (hC : C = (encA a).toArray) (h : W.heap[g]? = some (.cells C t fz)) : Lies encA 6 W (some ⟨g, 0, none⟩) [a] := fun j x hx => by
  subst hC
  obtain rfl : j = 0 := by
    have := (List.getElem?_eq_some_iff.1 hx).1
    simpa using this
  obtain rfl : a = x := by simpa using hx
  refine ⟨_, _, rfl, lt_of_heap h, fun i u hu => cell_of_heap h ?_⟩
  simpa using hu
set_option maxRecDepth 100000 in
set_option maxHeartbeats 4000000 in
theorem none_law (a : Ac) (w : World) (ha : AcAt w a) :
    Calls Try.prog 6 #[.agg #[.int .u8 (a.kind : Int), .string a.name, .slice a.adr a.ps.length a.cap, .int .i64 a.i, .int .i64 a.at_, .int .u8 (a.x.toNat : Int)]] w fun e w' => e = .returned (.bool true) ∧ Below w.heap.size w w' := by
  obtain ⟨k0, s, A, c, P, i, t, x⟩ := a
  obtain ⟨hk, hs, hi, hP, hP2⟩ := ha
  dsimp only at hk hs hi hP hP2 ⊢
  obtain ⟨W, hW, gW, hbl, hsz⟩ := box_new w (.cells #[.int .u8 (k0 : Int), .string s, .slice A P.length c, .int .i64 i, .int .i64 t, .int .u8 (x.toNat : Int)] 43 (0, 0))
  obtain ⟨W2, hW2, gW2, hbl2, hsz2⟩ := box_new W (.cells #[.int .u8 (k0 : Int), .string s, .slice A P.length c, .int .i64 i, .int .i64 t, .int .u8 (x.toNat : Int)] 43 (0, 0))
  have g0 := cell_of_heap (i := 0) gW rfl
  have g1 := cell_of_heap (i := 1) gW rfl
  have g2 := cell_of_heap (i := 2) gW rfl
  have g3 := cell_of_heap (i := 3) gW rfl
  have g4 := cell_of_heap (i := 4) gW rfl
  have g5 := cell_of_heap (i := 5) gW rfl
  have HG := Lib.hid (great_at (some ⟨W.heap.size, 0, none⟩) 1 [⟨k0, s, A, c, P, i, t, x⟩] 1 W2 (lies_act rfl gW2) (show 1 ≤ maxLen by decide) (by
    intro a ha
    obtain rfl : a = _ := by simpa using ha
    exact ⟨hk, hs, hi, (hP.below hbl (Nat.le_refl _)).below hbl2 (Nat.le_refl _), hP2⟩))
  have HB2 := Lib.hid (below_low hbl hbl2)
  have G2 := Lib.hid ((hbl2.block w.heap.size (lt_of_heap gW)).trans gW)
  have HS := Lib.hid hs
  have HI := Lib.hid hi
  have HP := Lib.hid hP
  have HP2 := Lib.hid hP2
  have HK := Lib.hid hk
  clear hk hs hi hP hP2 gW gW2 hbl hbl2 hsz hsz2
  go_enter Try.func6, Try.ntmps6
  go_wp2_with (go_at_call 19; refine HG.out.mono ?_; rintro e w1 ⟨⟨q, rfl, hq⟩, rfl⟩; clear hq; cases q)
  · have HB1 := Lib.hid (show Below w.heap.size w W by rw [← hW]; exact (Below.refl _ _).alloc (Nat.le_refl _) _)
    go_loopw [3, 4] (fun f q wi => ∃ (p : Option Addr) (r kk : Nat), r ≤ 2 ∧ q = .int .i64 r ∧ f = .pointer p ∧ NoneAt wi p ∧ wi.heap[w.heap.size]? = some (.cells #[.int .u8 (kk : Int), .string s, .slice A P.length c, .int .i64 i, .int .i64 t, .int .u8 (x.toNat : Int)] 43 (0, 0)) ∧ (p = none ∨ p ≠ some ⟨w.heap.size, 0, none⟩) ∧ Below w.heap.size w wi) (fun _ q _ => 2 - (intOf q).toNat)
    case atStart => exact ⟨none, 0, k0, by omega, rfl, rfl, .inl rfl, G2.out, .inl rfl, HB2.out⟩
    case round =>
      obtain ⟨p, r, kk, hr, rfl, rfl, hn, hg, hp, hb⟩ := hrel
      have HN := Lib.hid hn
      have HGB := Lib.hid hg
      have HB := Lib.hid hb
      have HPN := Lib.hid hp
      clear hn hg hb hp
      by_cases hlt : r < 2
      · have i1 : (r : Int) < 2 := by omega
        go_wp2
        go_loopw [5] (fun q wi => ∃ (k kk : Nat), k ≤ 9 ∧ q = .int .i64 k ∧ NoneAt wi p ∧ wi.heap[w.heap.size]? = some (.cells #[.int .u8 (kk : Int), .string s, .slice A P.length c, .int .i64 i, .int .i64 t, .int .u8 (x.toNat : Int)] 43 (0, 0)) ∧ Below w.heap.size w wi) (fun q _ => 9 - (intOf q).toNat)
        case atStart => exact ⟨0, kk, by omega, rfl, HN.out, HGB.out, HB.out⟩
        case round =>
          obtain ⟨k, k2, hk9, rfl, hn, hg, hb⟩ := hrel
          by_cases hkl : k < 9
          · have i2 : (k : Int) < 9 := by omega
            have wk : IntKind.u8.wrap (k : Int) = (k : Int) := by
              simp only [IntKind.wrap, IntKind.bits, IntKind.signed]
              simp
              omega
            have gf : wr.frozen? ⟨w.heap.size, 0, none⟩ = false := free_of_heap hg (by simp)
            have gc := cell_of_heap (i := 0) hg rfl
            obtain ⟨W3, hW3⟩ : ∃ W3, wr.setCell ⟨w.heap.size, 0, none⟩ (.int .u8 (k : Int)) = W3 := ⟨_, rfl⟩
            have hg3 : W3.heap[w.heap.size]? = some (.cells #[.int .u8 (k : Int), .string s, .slice A P.length c, .int .i64 i, .int .i64 t, .int .u8 (x.toNat : Int)] 43 (0, 0)) := by
              rw [← hW3, heap_setCell_at hg]
              rfl
            have hb3 : Below w.heap.size w W3 := by rw [← hW3]; exact hb.setCell (by show w.heap.size ≤ w.heap.size; omega) _
            have hn3 : NoneAt W3 p := by
              rcases hn with e | ⟨b, e1, e2, e3⟩
              · exact .inl e
              · refine .inr ⟨b, e1, by rw [← hW3]; simpa [World.setCell] using e2, ?_⟩
                have hne : ¬ b = w.heap.size := by
                  rintro rfl
                  rcases HPN.out with e | e
                  · rw [e1] at e; cases e
                  · exact e e1
                rw [← hW3]
                exact (Fr.setCell wr ⟨w.heap.size, 0, none⟩ (.int .u8 (k : Int))).cell e3 e2 hne
            have q0 := cell_of_heap (i := 0) hg3 rfl
            have q1 := cell_of_heap (i := 1) hg3 rfl
            have q2 := cell_of_heap (i := 2) hg3 rfl
            have q3 := cell_of_heap (i := 3) hg3 rfl
            have q4 := cell_of_heap (i := 4) hg3 rfl
            have q5 := cell_of_heap (i := 5) hg3 rfl
            have HG3 := Lib.hid hg3
            have HB3 := Lib.hid hb3
            have HN3 := Lib.hid hn3
            have HD := Lib.hid (n_done ⟨k, s, A, c, P, i, t, x⟩ ⟨by show k ≤ 255; omega, HS.out, HI.out, HP.out.below hb3 (Nat.le_refl _), HP2.out⟩ hn3)
            clear hn hg hb hg3 hb3 hn3
            go_wp2_with (go_at_call 21; refine HD.out.mono ?_; rintro e w4 ⟨rfl, hb4⟩; have HN4 := Lib.hid (HN3.out.below hb4); have HG4 := Lib.hid ((hb4.block w.heap.size (lt_of_heap HG3.out)).trans HG3.out); have HB4 := Lib.hid (below_low HB3.out hb4); clear hb4)
            go_roundw
            case rel => exact ⟨k + 1, k, by omega, by go_num, HN4.out, HG4.out, HB4.out⟩
            case measure => simp [intOf]; omega
          · obtain rfl : k = 9 := by omega
            have g1' := cell_of_heap (i := 1) hg rfl
            have HN5 := Lib.hid hn
            have HG5 := Lib.hid hg
            have HB5 := Lib.hid hb
            clear hn hg hb
            go_wp2_with (first
              | (go_at_call 24; refine (n_names HN5.out).mono ?_; rintro e w' ⟨rfl, rfl⟩)
              | (go_at_call 26; refine (n_pages HN5.out s).mono ?_; rintro e w' ⟨rfl, rfl⟩)
              | (go_at_call 18; refine (n_used HN5.out).mono ?_; rintro e w' ⟨rfl, rfl⟩))
            go_roundw
            case rel =>
              refine ⟨some ⟨wr.heap.size, 0, none⟩, r + 1, k2, by omega, by go_num, rfl, .inr ⟨_, rfl, by simp, cell_of_heap (heap_alloc_new wr _) rfl⟩, ?_, .inr ?_, (HB5.out).alloc HB5.out.size _⟩
              · exact (Below.heap_alloc _ _ _ (lt_of_heap HG5.out)).trans HG5.out
              · intro e
                have := lt_of_heap HG5.out
                injection e with e
                injection e with e
                omega
            case measure => simp [intOf]; omega
      · obtain rfl : r = 2 := by omega
        go_wp2_with (go_at_call 15; refine (does_at _).mono ?_; rintro e w8 ⟨rfl, hb8⟩; have B8 := Lib.hid (below_low HB.out hb8); clear hb8)
        go_ret
        exact ⟨rfl, B8.out⟩
  · go_ret
    exact ⟨rfl, HB2.out⟩
end Go.Proofs.Ytnpdnnaemfdinaa.F
