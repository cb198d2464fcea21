/- Of and Rounds: what a job comes to, and how many rounds it takes. Conditions: those that each theorem names. -/
import Derived.Test.YtpmgkmodpneiiaaRok
namespace Go.Proofs.Ytpmgkmodpneiiaa.E
open Go.RowKit Go.Sort Go.Shelf
open Go.Proofs.Ytpmgkmodpneiiaa.Ma
set_option linter.unusedVariables false
set_option linter.unusedSimpArgs false
theorem ofr_no (A : Option Addr) (c : Nat) (n : Int) (L : List Ed) (k a p d : Int) (w : World) (hL : Lies enc2 2 w A L) (hlen : L.length ≤ 100000) (h : refC n L k a p ≠ 0) :
    Calls Try.prog 12 #[.int .i64 n, .slice A L.length c, rq k a p d] w fun e w' => e = .returned (.tuple #[.slice none 0 0, .int .i64 (refC n L k a p)]) ∧ Below w.heap.size w w' := by
  obtain ⟨W, hW, hbl, c0, c1, c2, c3⟩ := box4 w k a p d
  have HB := Lib.hid hbl
  have HR := Lib.hid (run_no A c n L k a p d W (hL.below hbl (Nat.le_refl _)) hlen h)
  clear hL hlen h hbl
  go_enter Try.func12, Try.ntmps12
  go_wp2_with (go_at_call 23; refine HR.out.mono ?_; rintro e w2 ⟨rfl, hb2⟩; have HB2 := Lib.hid hb2; clear hb2)
  exact bodyPost_ret (v := .tuple #[.slice none 0 0, .int .i64 (refC n L k a p)]) (by simp [results, Try.results12, go_sem]) rfl ⟨rfl, HB.out.trans (HB2.out.mono HB.out.size)⟩
theorem rnd_no (A : Option Addr) (c : Nat) (n : Int) (L : List Ed) (k a p d : Int) (w : World) (hL : Lies enc2 2 w A L) (hlen : L.length ≤ 100000) (h : refC n L k a p ≠ 0) :
    Calls Try.prog 13 #[.int .i64 n, .slice A L.length c, rq k a p d] w fun e w' => e = .returned (.tuple #[.int .i64 0, .int .i64 (refC n L k a p)]) ∧ Below w.heap.size w w' := by
  obtain ⟨W, hW, hbl, c0, c1, c2, c3⟩ := box4 w k a p d
  have HB := Lib.hid hbl
  have HR := Lib.hid (run_no A c n L k a p d W (hL.below hbl (Nat.le_refl _)) hlen h)
  clear hL hlen h hbl
  go_enter Try.func13, Try.ntmps13
  go_wp2_with (go_at_call 23; refine HR.out.mono ?_; rintro e w2 ⟨rfl, hb2⟩; have HB2 := Lib.hid hb2; clear hb2)
  exact bodyPost_ret (v := .tuple #[.int .i64 0, .int .i64 (refC n L k a p)]) (by simp [results, Try.results13, go_sem]) rfl ⟨rfl, HB.out.trans (HB2.out.mono HB.out.size)⟩
theorem ofr_ok (A : Option Addr) (c n : Nat) (L : List Ed) (k a p d : Int) (w : World) (hL : Lies enc2 2 w A L) (h : refC n L k a p = 0) :
    Calls Try.prog 12 #[.int .i64 (n : Int), .slice A L.length c, rq k a p d] w fun e w' => ∃ g, e = .returned (.tuple #[.slice (some ⟨g, 0, none⟩) n n, .int .i64 0]) ∧ UB w' g (job n L k a).1 ∧ w.heap.size ≤ g ∧ Below w.heap.size w w' := by
  obtain ⟨W, hW, hbl, c0, c1, c2, c3⟩ := box4 w k a p d
  have HB := Lib.hid hbl
  have HR := Lib.hid (run_ok A c n L k a p d W (hL.below hbl (Nat.le_refl _)) h)
  clear hL h hbl
  go_enter Try.func12, Try.ntmps12
  go_wp2_with (go_at_call 23; refine HR.out.mono ?_; rintro e w2 ⟨g, rfl, hu, hg, hb2⟩; have HU := Lib.hid hu; have HG := Lib.hid hg; have HB2 := Lib.hid hb2; clear hu hg hb2)
  exact bodyPost_ret (v := .tuple #[.slice (some ⟨g, 0, none⟩) n n, .int .i64 0]) (by simp [results, Try.results12, go_sem]) rfl ⟨g, rfl, HU.out, Nat.le_trans HB.out.size HG.out, HB.out.trans (HB2.out.mono HB.out.size)⟩
theorem rnd_ok (A : Option Addr) (c n : Nat) (L : List Ed) (k a p d : Int) (w : World) (hL : Lies enc2 2 w A L) (h : refC n L k a p = 0) :
    Calls Try.prog 13 #[.int .i64 (n : Int), .slice A L.length c, rq k a p d] w fun e w' => e = .returned (.tuple #[.int .i64 ((job n L k a).2 : Nat), .int .i64 0]) ∧ Below w.heap.size w w' := by
  obtain ⟨W, hW, hbl, c0, c1, c2, c3⟩ := box4 w k a p d
  have HB := Lib.hid hbl
  have HR := Lib.hid (run_ok A c n L k a p d W (hL.below hbl (Nat.le_refl _)) h)
  clear hL h hbl
  go_enter Try.func13, Try.ntmps13
  go_wp2_with (go_at_call 23; refine HR.out.mono ?_; rintro e w2 ⟨g, rfl, hu, hg, hb2⟩; have HU := Lib.hid hu; have HG := Lib.hid hg; have HB2 := Lib.hid hb2; clear hu hg hb2)
  exact bodyPost_ret (v := .tuple #[.int .i64 ((job n L k a).2 : Nat), .int .i64 0]) (by simp [results, Try.results13, go_sem]) rfl ⟨rfl, HB.out.trans (HB2.out.mono HB.out.size)⟩
end Go.Proofs.Ytpmgkmodpneiiaa.E
