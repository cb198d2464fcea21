/- The chapter's example. Conditions: none. -/
import Derived.Test.YtnpdnnaemfdinaaPg
namespace Go.Proofs.Ytnpdnnaemfdinaa.F
open Go.RowKit Go.Maps Go.Sort Go.Shelf
open Go.Proofs.Ytnpdnnaemfdinaa.Ma
set_option linter.unusedVariables false
set_option linter.unusedSimpArgs false
theorem lies_lit (w : World) (L : List ByteArray) {C : Array Value} (hC : C = (L.map Value.string).toArray) {t : TypeId} {fz : Nat × Nat} : Lies encS 1 (w.alloc (.cells C t fz)) (some ⟨w.heap.size, 0, none⟩) L := fun j x hx => by
  subst hC
  refine ⟨_, _, rfl, by simp, fun i u hu => ?_⟩
  have hi : i = 0 := by
    have := (List.getElem?_eq_some_iff.1 hu).1
    simp [encS] at this
    exact this
  subst hi
  have : u = .string x := by simpa [encS] using hu.symm
  subst this
  refine cell_of_heap (heap_alloc_new w _) ?_
  simp [hx]
theorem fr_low {w0 w w' : World} (h : Below w0.heap.size w0 w) (hf : Fr (fun k => ¬ k < w0.heap.size) w w') : Below w0.heap.size w0 w' := h.trans (hf.below h.size (fun k hk => by omega))
theorem below_low {w0 w w' : World} (h : Below w0.heap.size w0 w) (hb : Below w.heap.size w w') : Below w0.heap.size w0 w' := h.trans (hb.mono h.size)
def sA : ByteArray := ⟨#[97]⟩
def sB : ByteArray := ⟨#[98]⟩
theorem doe_1 : writeF 3 [] sA [pageOf 112, pageOf 113] = (0, [(sA, [pageOf 112, pageOf 113])]) := by decide +kernel
theorem doe_2 : putF 3 [(sA, [pageOf 112, pageOf 113])] sA 2 (pageOf 112) = (0, [(sA, [pageOf 112, pageOf 113, pageOf 112])]) := by decide +kernel
theorem doe_3 : putF 3 [(sA, [pageOf 112, pageOf 113, pageOf 112])] sB 0 (pageOf 112) = (61, [(sA, [pageOf 112, pageOf 113, pageOf 112])]) := by decide +kernel
theorem doe_4 : putF 3 [(sA, [pageOf 112, pageOf 113, pageOf 112])] sA 5 (pageOf 112) = (2, [(sA, [pageOf 112, pageOf 113, pageOf 112])]) := by decide +kernel
theorem doe_5 : readD 1 [(sA, [pageOf 112, pageOf 113, pageOf 112])] sA 0 = (pageOf 112, 0, 0) := by decide +kernel
theorem doe_6 : readD 0 [(sA, [pageOf 112, pageOf 113, pageOf 112])] sA 9 = (⟨#[]⟩, 4, 0) := by decide +kernel
theorem doe_7 : readD 0 [(sA, [pageOf 112, pageOf 113, pageOf 112])] sA 1 = (⟨#[]⟩, 60, -1) := by decide +kernel
theorem doe_8 : readD (-1) [(sA, [pageOf 112, pageOf 113, pageOf 112])] sA 1 = (pageOf 113, 0, -1) := by decide +kernel
section
variable {X : Nat → Prop} {w w' : World} {b bm : Nat} {room left : Int} {D D' : List De}
/-- The calls, with what they answer named. -/
theorem c_write {s : ByteArray} {A : Option Addr} {n c : Nat} {P : List ByteArray} {r : Int} (hF : writeF room D s P = (r, D')) (hs : s.size ≤ maxLen) (hn : P.length = n) (hlen : n ≤ 1000000) (hP : Lies encS 1 w A P) (h : FsX X w b bm room left D) :
    Calls Try.prog 11 #[.pointer (some ⟨b, 0, none⟩), .string s, .slice A n c] w fun e w' => e = .returned (.int .i64 r) ∧ FsX X w' b bm room left D' ∧ Fr (fun k => ¬ X k) w w' := by
  subst hn
  have := x_write s hs A c P hP hlen h
  rw [hF] at this
  exact this
theorem c_put {s : ByteArray} {i : Int} {x : ByteArray} {r : Int} (hF : putF room D s i x = (r, D')) (hs : s.size ≤ maxLen) (h : FsX X w b bm room left D) :
    Calls Try.prog 17 #[.pointer (some ⟨b, 0, none⟩), .string s, .int .i64 i, .string x] w fun e w' => e = .returned (.int .i64 r) ∧ FsX X w' b bm room left D' ∧ Fr (fun k => ¬ X k) w w' := by
  have := x_put s hs i x h
  rw [hF] at this
  exact this
theorem c_read {s : ByteArray} {i : Int} {x : ByteArray} {r l' : Int} (hF : readD left D s i = (x, r, l')) (hs : s.size ≤ maxLen) (h : FsX X w b bm room left D) :
    Calls Try.prog 14 #[.pointer (some ⟨b, 0, none⟩), .string s, .int .i64 i] w fun e w' => e = .returned (.tuple #[.string x, .int .i64 r]) ∧ FsX X w' b bm room l' D ∧ Fr (fun k => ¬ X k) w w' := by
  have := x_read s i hs h
  rw [hF] at this
  exact this
theorem c_fail {n r l' : Int} (hF : failF left n = (r, l')) (hn : n ≤ 9223372036854775807) (h : FsX X w b bm room left D) :
    Calls Try.prog 13 #[.pointer (some ⟨b, 0, none⟩), .int .i64 n] w fun e w' => e = .returned (.int .i64 r) ∧ FsX X w' b bm room l' D ∧ Fr (fun k => ¬ X k) w w' := by
  have := x_fail n hn h
  rw [hF] at this
  exact this
theorem c_used {u : Nat} (hF : pagesD D = u) (h : FsX X w b bm room left D) : Calls Try.prog 18 #[.pointer (some ⟨b, 0, none⟩)] w fun e w' => e = .returned (.int .i64 u) ∧ FsX X w' b bm room left D ∧ Below w.heap.size w w' := by
  subst hF
  exact (x_used h).mono fun e w' ⟨he, hb⟩ => ⟨he, h.below hb, hb⟩
end
theorem sA_len : sA.size ≤ maxLen := by decide
theorem sB_len : sB.size ≤ maxLen := by decide
set_option maxRecDepth 100000 in
set_option maxHeartbeats 4000000 in
theorem does_at (w : World) : Calls Try.prog 15 #[] w fun e w' => e = .returned (.bool true) ∧ Below w.heap.size w w' := by
  have d1 := doe_1
  have d2 := doe_2
  have d3 := doe_3
  have d4 := doe_4
  have d5 := doe_5
  have d6 := doe_6
  have d7 := doe_7
  have d8 := doe_8
  have HP := Lib.hid (fun w => page_law 112 w)
  have HQ := Lib.hid (fun w => page_law 113 w)
  generalize pageOf 112 = P at d1 d2 d3 d4 d5 d6 d7 d8 HP
  generalize pageOf 113 = Q at d1 d2 d3 d4 d5 d6 d7 d8 HQ
  have E1 := Lib.hid d1
  have E2 := Lib.hid d2
  have E3 := Lib.hid d3
  have E4 := Lib.hid d4
  have E5 := Lib.hid d5
  have E6 := Lib.hid d6
  have E7 := Lib.hid d7
  have E8 := Lib.hid d8
  clear d1 d2 d3 d4 d5 d6 d7 d8
  go_enter Try.func15, Try.ntmps15
  go_wp2_with (first
    | (go_at_call 10; refine (new_at 3 _ (by decide) (by decide)).mono ?_; rintro e w1 ⟨b, bm, rfl, h1, hb1⟩; have H1 := Lib.hid h1; have B1 := Lib.hid hb1; clear h1 hb1)
    | (go_at_call 12; refine (HQ.out _).mono ?_; rintro e w3 ⟨rfl, hb3⟩; have H3 := Lib.hid (H2.out.below hb3); have B3 := Lib.hid (below_low B2.out hb3); clear hb3)
    | (go_at_call 12; refine (HP.out _).mono ?_; rintro e w2 ⟨rfl, hb2⟩; have H2 := Lib.hid (H1.out.below hb2); have B2 := Lib.hid (below_low B1.out hb2); clear hb2)
    | (go_at_call 11; refine (c_write E1.out sA_len (n := 2) rfl (by decide) (lies_lit w3 [P, Q] rfl) (H3.out.below ((Below.refl _ _).alloc (Nat.le_refl _) _))).mono ?_; rintro e w4 ⟨rfl, h4, hf4⟩; have H4 := Lib.hid h4; have B4 := Lib.hid (fr_low (below_low B3.out ((Below.refl _ _).alloc (Nat.le_refl _) _)) hf4); clear h4 hf4)
    | (go_at_call 17; refine (c_put E4.out sA_len H6.out).mono ?_; rintro e w7 ⟨rfl, h7, hf7⟩; have H7 := Lib.hid h7; have B7 := Lib.hid (fr_low B6.out hf7); clear h7 hf7)
    | (go_at_call 17; refine (c_put E3.out sB_len H5.out).mono ?_; rintro e w6 ⟨rfl, h6, hf6⟩; have H6 := Lib.hid h6; have B6 := Lib.hid (fr_low B5.out hf6); clear h6 hf6)
    | (go_at_call 17; refine (c_put E2.out sA_len H4.out).mono ?_; rintro e w5 ⟨rfl, h5, hf5⟩; have H5 := Lib.hid h5; have B5 := Lib.hid (fr_low B4.out hf5); clear h5 hf5)
    | (go_at_call 18; refine (c_used (u := 3) rfl H7.out).mono ?_; rintro e w8 ⟨rfl, h8, hb8⟩; have H8 := Lib.hid h8; have B8 := Lib.hid (below_low B7.out hb8); clear h8 hb8)
    | (go_at_call 13; refine (c_fail (n := 1) rfl (by decide) H8.out).mono ?_; rintro e w9 ⟨rfl, h9, hf9⟩; have H9 := Lib.hid h9; have B9 := Lib.hid (fr_low B8.out hf9); clear h9 hf9)
    | (go_at_call 14; refine (c_read E8.out sA_len H12.out).mono ?_; rintro e w13 ⟨rfl, h13, hf13⟩; have H13 := Lib.hid h13; have B13 := Lib.hid (fr_low B12.out hf13); clear h13 hf13)
    | (go_at_call 14; refine (c_read E7.out sA_len H11.out).mono ?_; rintro e w12 ⟨rfl, h12, hf12⟩; have H12 := Lib.hid h12; have B12 := Lib.hid (fr_low B11.out hf12); clear h12 hf12)
    | (go_at_call 14; refine (c_read E6.out sA_len H10.out).mono ?_; rintro e w11 ⟨rfl, h11, hf11⟩; have H11 := Lib.hid h11; have B11 := Lib.hid (fr_low B10.out hf11); clear h11 hf11)
    | (go_at_call 14; refine (c_read E5.out sA_len H9.out).mono ?_; rintro e w10 ⟨rfl, h10, hf10⟩; have H10 := Lib.hid h10; have B10 := Lib.hid (fr_low B9.out hf10); clear h10 hf10))
  go_ret
  exact ⟨rfl, B13.out⟩
end Go.Proofs.Ytnpdnnaemfdinaa.F
