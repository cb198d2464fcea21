/- shards: the reader: skip, number, list. Conditions: those that each theorem names. -/
import Derived.Test.YtdlmkdldmiiaiaaEnw
namespace Go.Proofs.Ytdlmkdldmiiaiaa.E
open Go.RowKit Go.Sort Go.Shelf
open Go.Proofs.Ytdlmkdldmiiaiaa.Ma Go.Proofs.Ytdlmkdldmiiaiaa.By Go.Proofs.Ytdlmkdldmiiaiaa.Enc
set_option linter.unusedVariables false
set_option linter.unusedSimpArgs false
/-- A reader of s lies in block R. -/
def RdS (R : Nat) (w : World) (s : ByteArray) (a : Int) (bad : Bool) : Prop := w.heap[R]? = some (.cells #[.string s, .int .i64 a, .bool bad] 70 (0, 0))
section
variable {R : Nat} {w w' : World} {s : ByteArray} {a : Int} {bad : Bool}
theorem RdS.lt (h : RdS R w s a bad) : R < w.heap.size := lt_of_heap h
theorem RdS.cells (h : RdS R w s a bad) : w.cell? ⟨R, 0, none⟩ = some (.string s) ∧ w.cell? ⟨R, 1, none⟩ = some (.int .i64 a) ∧ w.cell? ⟨R, 2, none⟩ = some (.bool bad) ∧ w.frozen? ⟨R, 1, none⟩ = false ∧ w.frozen? ⟨R, 2, none⟩ = false :=
  ⟨cell_of_heap h rfl, cell_of_heap h rfl, cell_of_heap h rfl, free_of_heap h (by simp), free_of_heap h (by simp)⟩
theorem RdS.fr {S : Nat → Prop} (h : RdS R w s a bad) (hf : Fr S w w') (hS : ¬ S R) : RdS R w' s a bad := hf.keep h hS
theorem RdS.to (h : RdS R w s a bad) (hb : Below w.heap.size w w') : RdS R w' s a bad := h.fr (Fr.of_below hb) (fun e => e)
theorem RdS.setA (h : RdS R w s a bad) (x : Int) : RdS R (w.setCell ⟨R, 1, none⟩ (.int .i64 x)) s x bad := heap_setCell_at h _
theorem RdS.setB (h : RdS R w s a bad) : RdS R (w.setCell ⟨R, 2, none⟩ (.bool true)) s a true := heap_setCell_at h _
end
theorem set_same (w : World) (p : Addr) (v : Value) : (w.setCell p v).heap.size = w.heap.size := by simp [World.setCell]
/-- What is left of a place behind so many bytes, and whether there were none. -/
def skipC (s : ByteArray) (a : Int) (bad : Bool) (n : Int) : Int × Bool := if (s.size : Int) - a < n then (a, true) else (a + n, bad)
set_option maxRecDepth 100000 in
set_option maxHeartbeats 1000000 in
theorem skip_at (R : Nat) (s : ByteArray) (a : Int) (bad : Bool) (n : Int) (w : World) (h : RdS R w s a bad) (ha : 0 ≤ a ∧ a ≤ s.size) (hs : s.size ≤ 1000000) (hn : 0 ≤ n ∧ n ≤ 1000000) :
    Calls Try.prog 62 #[.pointer (some ⟨R, 0, none⟩), .int .i64 n] w fun e w' => e = .returned (.tuple #[]) ∧ RdS R w' s (skipC s a bad n).1 (skipC s a bad n).2 ∧ Fr (fun k => k = R) w w' ∧ w'.heap.size = w.heap.size := by
  obtain ⟨c0, c1, c2, f1, f2⟩ := h.cells
  have H := Lib.hid h
  unfold skipC
  obtain ⟨z, hz⟩ : ∃ z, (s.size : Int) - a = z := ⟨_, rfl⟩
  have z1 : -1 < z ∧ z ≤ 1000000 := by omega
  by_cases hc : (s.size : Int) - a < n
  · rw [if_pos hc]
    rw [hz] at hc
    have j1 : decide (n > z) = true := decide_eq_true hc
    have j2 : IntKind.i64.wrap z = z := IntWalk.i64_in _ ⟨by omega, by omega⟩
    clear h
    go_enter Try.func62, Try.ntmps62
    go_wp2
    go_quiet (fail)
    have D := Lib.hid (H.out.to ((below_drewNg w nq)))
    obtain ⟨c0', c1', c2', f1', f2'⟩ := D.out.cells
    clear c0 c1 c2 f1 f2
    go_wp2
    refine bodyPost_ret (results_none rfl _ _ _) rfl ?_
    exact ⟨rfl, D.out.setB, (Fr.of_below (below_drewNg w nq)).mono (fun _ e => e.elim) |>.trans (Fr.setCell _ ⟨R, 2, none⟩ _), set_same _ _ _⟩
  · rw [if_neg hc]
    rw [hz] at hc
    have j1 : decide (n > z) = false := decide_eq_false hc
    have j2 : IntKind.i64.wrap z = z := IntWalk.i64_in _ ⟨by omega, by omega⟩
    have j3 : 0 ≤ a ∧ a ≤ 1000000 := by omega
    clear h
    go_enter Try.func62, Try.ntmps62
    go_wp2
    go_quiet (fail)
    have D := Lib.hid (H.out.to ((below_drewNg w nq)))
    obtain ⟨c0', c1', c2', f1', f2'⟩ := D.out.cells
    clear c0 c1 c2 f1 f2
    go_wp2
    go_end0
    exact ⟨rfl, D.out.setA _, (Fr.of_below (below_drewNg w nq)).mono (fun _ e => e.elim) |>.trans (Fr.setCell _ ⟨R, 1, none⟩ _), set_same _ _ _⟩
/-- The number that stands there, the place behind it, and whether there was none. -/
def numC (s : ByteArray) (a : Int) (bad : Bool) : Int × Int × Bool := if (getC s a).2.2 then ((getC s a).1, (getC s a).2.1, bad) else (0, a, true)
set_option maxRecDepth 100000 in
set_option maxHeartbeats 1000000 in
theorem number_at (R : Nat) (s : ByteArray) (a : Int) (bad : Bool) (w : World) (h : RdS R w s a bad) (hs : s.size ≤ 1000000) :
    Calls Try.prog 63 #[.pointer (some ⟨R, 0, none⟩)] w fun e w' => e = .returned (.int .i64 (numC s a bad).1) ∧ RdS R w' s (numC s a bad).2.1 (numC s a bad).2.2 ∧ Fr (fun k => k = R) w w' ∧ w'.heap.size = w.heap.size := by
  obtain ⟨c0, c1, c2, f1, f2⟩ := h.cells
  have H := Lib.hid h
  have HG := Lib.hid (fun V => getx_at s a V hs)
  unfold numC
  obtain ⟨m, nx, ok, hg⟩ : ∃ m nx ok, getC s a = (m, nx, ok) := ⟨_, _, _, rfl⟩
  rw [hg] at HG ⊢
  cases ok with
  | false =>
    clear h hg
    go_enter Try.func63, Try.ntmps63
    go_wp2
    go_quiet ((go_at_call 94; exact Calls.quiet_of_same (HG.out _)))
    have D := Lib.hid (H.out.to ((below_drewNg w nq)))
    obtain ⟨c0', c1', c2', f1', f2'⟩ := D.out.cells
    clear c0 c1 c2 f1 f2
    go_wp2
    go_ret
    exact ⟨rfl, D.out.setB, (Fr.of_below (below_drewNg w nq)).mono (fun _ e => e.elim) |>.trans (Fr.setCell _ ⟨R, 2, none⟩ _), set_same _ _ _⟩
  | true =>
    clear h hg
    go_enter Try.func63, Try.ntmps63
    go_wp2
    go_quiet ((go_at_call 94; exact Calls.quiet_of_same (HG.out _)))
    have D := Lib.hid (H.out.to ((below_drewNg w nq)))
    obtain ⟨c0', c1', c2', f1', f2'⟩ := D.out.cells
    clear c0 c1 c2 f1 f2
    go_wp2
    go_ret
    exact ⟨rfl, D.out.setA _, (Fr.of_below (below_drewNg w nq)).mono (fun _ e => e.elim) |>.trans (Fr.setCell _ ⟨R, 1, none⟩ _), set_same _ _ _⟩
/-- The list that stands there, the place behind it, and whether there was none. -/
def lstC (s : ByteArray) (a : Int) (bad : Bool) : List Int × Int × Bool := if (decC s a).2.2 = 0 then ((decC s a).1, (decC s a).2.1, bad) else ([], a, true)
theorem decGo_more {s : ByteArray} : ∀ (m : Nat) (last nx : Int) (l : List Int) (z : Int), decGo s m last nx = some (l, z) → nx + (l.length : Int) ≤ z := by
  intro m
  induction m with
  | zero => intro last nx l z h; cases h; simp
  | succ m ih =>
    intro last nx l z h
    unfold decGo at h
    obtain ⟨gap, nx', ok, hg⟩ : ∃ gap nx' ok, getC s nx = (gap, nx', ok) := ⟨_, _, _, rfl⟩
    rw [hg] at h
    dsimp only at h
    split at h
    · cases h
    · rename_i hc
      cases ok with
      | false => exact absurd (.inl rfl) hc
      | true =>
        obtain ⟨p, hp, he⟩ := Option.map_eq_some_iff.1 h
        obtain ⟨p1, p2⟩ := p
        cases he
        have r := ih _ _ _ _ hp
        have := getC_bound hg
        simp only [List.length_cons]
        omega
theorem lstC_bound {s : ByteArray} {a : Int} {bad : Bool} (ha : 0 ≤ a ∧ a ≤ s.size) : a + ((lstC s a bad).1.length : Int) ≤ (lstC s a bad).2.1 ∧ (lstC s a bad).2.1 ≤ s.size := by
  unfold lstC
  split
  · rename_i h
    refine ⟨?_, decC_len.2⟩
    unfold decC at h ⊢
    obtain ⟨many, nx, ok, hg⟩ : ∃ gap nx' ok, getC s a = (gap, nx', ok) := ⟨_, _, _, rfl⟩
    rw [hg] at h ⊢
    dsimp only at h ⊢
    split at h
    · cases h
    · rename_i hc
      rw [if_neg hc]
      cases hd : decGo s many.toNat (-1) nx with
      | none => rw [hd] at h; cases h
      | some p =>
        obtain ⟨l, z⟩ := p
        have := decGo_more _ _ _ _ _ hd
        cases ok with
        | false => exact absurd (.inl rfl) hc
        | true =>
          have := getC_bound hg
          show a + (l.length : Int) ≤ z
          omega
  · simp
    omega
set_option maxRecDepth 100000 in
set_option maxHeartbeats 1000000 in
theorem rlist_at (R : Nat) (s : ByteArray) (a : Int) (bad : Bool) (w : World) (h : RdS R w s a bad) (hs : s.size ≤ 1000000) :
    Calls Try.prog 34 #[.pointer (some ⟨R, 0, none⟩)] w fun e w' => ∃ A c, e = .returned (.slice A (lstC s a bad).1.length c) ∧ w'.ownsRow w.heap.size 3 1 (.slice A (lstC s a bad).1.length c) (lstC s a bad).1.length (cellsK encI (lstC s a bad).1) ∧ RdS R w' s (lstC s a bad).2.1 (lstC s a bad).2.2 ∧ Fr (fun k => k = R) w w' := by
  obtain ⟨c0, c1, c2, f1, f2⟩ := h.cells
  have H := Lib.hid h
  have HD := Lib.hid (fun V => dec_at s a V hs)
  unfold lstC
  obtain ⟨l, nx, e0, hg⟩ : ∃ m nx ok, decC s a = (m, nx, ok) := ⟨_, _, _, rfl⟩
  rw [hg] at HD ⊢
  by_cases he : e0 = 0
  · subst he
    rw [if_pos rfl]
    clear h hg
    go_enter Try.func34, Try.ntmps34
    go_wp2
    go_region_held3 (fun V => V.cell? ⟨R, 0, none⟩ = some (.string s) ∧ V.cell? ⟨R, 1, none⟩ = some (.int .i64 a))
      (first | exact ⟨c0, c1⟩ | exact ⟨d0, d1⟩)
      ((go_at_call 64; refine (HD.out w.drew).mono ?_; rintro e w3 ⟨A, c, rfl, hr, hb⟩; have HR := Lib.hid hr; have HB := Lib.hid ((show Below w.heap.size w w.drew from (Below.refl _ _).drew).trans hb); have E := Lib.hid (H.out.to HB.out); have d0 := E.out.cells.1; have d1 := E.out.cells.2.1; clear hr hb))
    obtain ⟨_, _, b2, f1', f2'⟩ := E.out.cells
    clear c0 c1 c2 f1 f2
    go_wp2
    go_ret
    refine ⟨A, c, rfl, ?_, E.out.setA _, ((Fr.of_below HB.out).mono (fun _ e => e.elim)).trans (Fr.setCell _ ⟨R, 1, none⟩ _)⟩
    refine (Fr.setCell w3 ⟨R, 1, none⟩ _).row HR.out (fun g hg e => ?_)
    have h1 : w.heap.size ≤ g := (HR.out.lt g hg).1
    have e' : g = R := e
    have := H.out.lt
    omega
  · rw [if_neg he]
    have j1 : (e0 != 0) = true := by simpa using he
    clear h hg
    go_enter Try.func34, Try.ntmps34
    go_wp2
    go_region_held3 (fun V => V.cell? ⟨R, 0, none⟩ = some (.string s) ∧ V.cell? ⟨R, 1, none⟩ = some (.int .i64 a))
      (first | exact ⟨c0, c1⟩ | exact ⟨d0, d1⟩)
      ((go_at_call 64; refine (HD.out w.drew).mono ?_; rintro e w3 ⟨A, c, rfl, hr, hb⟩; have HR := Lib.hid hr; have HB := Lib.hid ((show Below w.heap.size w w.drew from (Below.refl _ _).drew).trans hb); have E := Lib.hid (H.out.to HB.out); have d0 := E.out.cells.1; have d1 := E.out.cells.2.1; clear hr hb))
    obtain ⟨_, _, b2, f1', f2'⟩ := E.out.cells
    clear c0 c1 c2 f1 f2
    go_wp2
    go_ret
    exact ⟨none, 0, rfl, World.ownsRow_nil _ _ _ _, E.out.setB, ((Fr.of_below HB.out).mono (fun _ e => e.elim)).trans (Fr.setCell _ ⟨R, 2, none⟩ _)⟩
end Go.Proofs.Ytdlmkdldmiiaiaa.E
