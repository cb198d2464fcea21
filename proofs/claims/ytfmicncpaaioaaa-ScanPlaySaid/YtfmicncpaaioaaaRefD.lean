/- The document's scan goes on to the next shard. Conditions: those that each theorem names. -/
import Derived.Test.YtfmicncpaaioaaaRefC
namespace Go.Proofs.Ytfmicncpaaioaaa.Sc
open Go.RowKit Go.Maps Go.Sort Go.Shelf
open Go.Proofs.Ytfmicncpaaioaaa.Ma
set_option linter.unusedVariables false
set_option linter.unusedSimpArgs false
theorem RefAt.spot {B : Nat} {w : World} {rb : Nat} {n a : Int} {L : List Ent} {v : Value} (h : RefAt B w rb n a L v) {j : Nat} {p : Ent} (hj : L[j]? = some p) :
    ∃ g c, v = .slice (some ⟨g, 0, none⟩) L.length c ∧ g ≠ rb ∧ g < w.heap.size ∧ w.cell? ⟨g, j * 2, none⟩ = some (.int .i64 p.1) ∧ w.cell? ⟨g, j * 2 + 1, none⟩ = some (.bool p.2) ∧ w.frozen? ⟨g, j * 2 + 1, none⟩ = false := by
  obtain ⟨A, c, rfl, hc, hcm, hn, hA⟩ := row_cells h.2
  have hjl := (List.getElem?_eq_some_iff.1 hj).1
  obtain ⟨x, rfl⟩ : ∃ a, A = some a := by
    cases A with
    | none => have := (hn rfl).1; rw [this] at hjl; simp at hjl
    | some a => exact ⟨a, rfl⟩
  obtain ⟨g, rfl, _, hg, ⟨cur, hcur⟩, hcell⟩ := hA x rfl
  obtain ⟨d0, d1⟩ := hcell j _ hj
  have hfz : w.frozen? ⟨g, j * 2 + 1, none⟩ = false := by
    have : ∃ u, cur[j * 2 + 1]? = some u := by
      simp [World.cell?, hcur] at d1
      exact ⟨_, d1⟩
    obtain ⟨u, hu⟩ := this
    exact free_of_heap hcur (Array.getElem?_eq_some_iff.1 hu).1
  exact ⟨g, c, rfl, h.ne g rfl, hg, d0, d1, hfz⟩
theorem RefAt.put {B : Nat} {w : World} {rb g c : Nat} {n a : Int} {L : List Ent} (h : RefAt B w rb n a L (.slice (some ⟨g, 0, none⟩) L.length c)) {j : Nat} {p : Ent} (hj : L[j]? = some p) (b : Bool) :
    RefAt B (w.setCell ⟨g, j * 2 + 1, none⟩ (.bool b)) rb n a (L.set j (p.1, b)) (.slice (some ⟨g, 0, none⟩) L.length c) :=
  ⟨(Fr.setCell w ⟨g, j * 2 + 1, none⟩ (.bool b)).keep h.1 (fun e => h.ne g rfl e.symm), row_put h.2 hj b⟩
def upT (L : List Ent) (j : Nat) : List Ent := allT (L.take j) ++ L.drop j
theorem upT_length (L : List Ent) (j : Nat) : (upT L j).length = L.length := by
  unfold upT
  rw [List.length_append, length_allT, List.length_take, List.length_drop]
  omega
theorem upT_at {L : List Ent} {j : Nat} {p : Ent} (h : L[j]? = some p) : (upT L j)[j]? = some p := by
  have hj := (List.getElem?_eq_some_iff.1 h).1
  unfold upT
  rw [List.getElem?_append_right (by rw [length_allT, List.length_take]; omega), length_allT, List.length_take, List.getElem?_drop]
  rw [show j + (j - min j L.length) = j by omega, h]
theorem upT_succ {L : List Ent} {j : Nat} {p : Ent} (h : L[j]? = some p) : (upT L j).set j (p.1, true) = upT L (j + 1) := by
  have hj := (List.getElem?_eq_some_iff.1 h).1
  unfold upT
  have e : L.drop j = p :: L.drop (j + 1) := by
    rw [List.drop_eq_getElem_cons hj]
    congr 1
    exact (List.getElem?_eq_some_iff.1 h).2
  have hl : (allT (L.take j)).length = j := by rw [length_allT, List.length_take]; omega
  rw [e, List.set_append_right _ _ (by omega), hl, Nat.sub_self, List.take_add_one, h]
  simp [allT]
theorem upT_all (L : List Ent) : upT L L.length = allT L := by simp [upT]
theorem radv_wait (B rb : Nat) (n a : Int) (L : List Ent) (v : Value) (w : World) (h : RefAt B w rb n a L v) (hlen : L.length ≤ 4) (hw : idsOf false L ≠ []) :
    Calls Try.prog 18 #[.pointer (some ⟨rb, 0, none⟩)] w fun e w' => e = .returned (.tuple #[.int .i64 0, .int .i64 271]) ∧ RefAt B w' rb n a L v ∧ Below w.heap.size w w' := by
  have HI := Lib.hid (rids_at B rb n a L v true w h hlen)
  have HR := Lib.hid h
  have hpos : 0 < (idsOf (!true) L).length := List.length_pos_iff.2 hw
  have hle : (idsOf (!true) L).length ≤ 4 := by have := idsOf_le (!true) L L.length; rw [List.take_length] at this; omega
  have hg : ∀ g, v.ownBlock = some g → g < w.heap.size := fun g hg => (h.2.lt g hg).2
  have HG := Lib.hid hg
  clear h hw hg
  go_enter Try.func18, Try.ntmps18
  go_wp2_with (go_at_call 23; refine HI.out.mono ?_; rintro e w1 ⟨v1, rfl, hr, hb⟩; obtain ⟨A, c, rfl, _, _, _⟩ := ids_cells hr; have HB := Lib.hid hb; clear hr hb)
  go_ret2
  exact ⟨rfl, HR.out.kept (Fr.of_below HB.out) (fun e => e) (fun _ _ e => e), HB.out⟩
set_option maxHeartbeats 1000000 in
theorem radv_go (B rb : Nat) (n a : Int) (L : List Ent) (v : Value) (w : World) (h : RefAt B w rb n a L v) (hlen : L.length ≤ 4) (hn : 0 < n) (hn2 : n ≤ 16) (ha : -1 ≤ a) (ha2 : a < n) (hw : idsOf false L = []) :
    Calls Try.prog 18 #[.pointer (some ⟨rb, 0, none⟩)] w fun e w' => e = .returned (.tuple #[.int .i64 ((a + 1) % n), .int .i64 0]) ∧ RefAt B w' rb n ((a + 1) % n) (allT L) v ∧ Fr (fun k => k = rb ∨ v.ownBlock = some k) w w' := by
  have hI := rids_at B rb n a L v true w h hlen
  rw [show (!true) = false from rfl, hw] at hI
  have HI := Lib.hid hI
  have HR := Lib.hid h
  obtain ⟨A, c, rfl, hc, hcm, _, _⟩ := row_cells h.2
  have hn0 : ¬ n = 0 := by omega
  have hwr : IntKind.i64.wrap (a + 1) = a + 1 := IntWalk.i64_in _ ⟨by omega, by omega⟩
  have htm : (a + 1).tmod n = (a + 1) % n := Int.tmod_eq_emod_of_nonneg (by omega)
  have hm0 := Int.emod_nonneg (a + 1) (show n ≠ 0 by omega)
  have hm1 := Int.emod_lt_of_pos (a + 1) hn
  have hwm : IntKind.i64.wrap ((a + 1) % n) = (a + 1) % n := IntWalk.i64_in _ ⟨by omega, by omega⟩
  clear h hw hI
  go_enter Try.func18, Try.ntmps18
  go_wp2_with (go_at_call 23; refine HI.out.mono ?_; rintro e w1 ⟨v1, rfl, hr, hb⟩; obtain ⟨A1, c1, rfl, _, _, _⟩ := ids_cells (l := []) hr; have HB := Lib.hid hb; clear hr hb)
  refine region_tail 13 (by kernel_rfl) (by kernel_rfl) fun wd hwd => ?_
  simp only [List.take_succ_cons, List.take_zero, List.drop_succ_cons, List.drop_zero]
  have hfr : Fr (fun _ => False) w wd := by rw [hwd]; exact (Fr.of_below HB.out).trans (Fr.drewN _ w1 1)
  have HD : RefAt B wd rb n a L (.slice A L.length c) := HR.out.kept hfr (fun e => e) (fun _ _ e => e)
  have d0 := HD.c0
  have d1 := HD.c1
  have df := HD.f1
  have HDx := Lib.hid HD
  have hfx := Lib.hid hfr
  clear HD hfr hwd
  repeat still_step
  refine wpStill_nil ?_
  go_wp2_with fail
  have R0 : RefAt B (wd.setCell ⟨rb, 1, none⟩ (.int .i64 ((a + 1) % n))) rb n ((a + 1) % n) L (.slice A L.length c) :=
    ⟨heap_setCell_at (i := 1) HDx.out.1 (.int .i64 ((a + 1) % n)), (Fr.setCell wd ⟨rb, 1, none⟩ (.int .i64 ((a + 1) % n))).row HDx.out.2 (fun g hg e => HDx.out.ne g hg e)⟩
  have F0 : Fr (fun k => k = rb ∨ (Value.slice A L.length c).ownBlock = some k) w (wd.setCell ⟨rb, 1, none⟩ (.int .i64 ((a + 1) % n))) := (hfx.out.mono (fun _ h => h.elim)).trans ((Fr.setCell wd ⟨rb, 1, none⟩ (.int .i64 ((a + 1) % n))).mono (fun _ h => .inl h))
  go_loopw [4] (fun i wr => ∃ j : Nat, j ≤ L.length ∧ i = .int .i64 j ∧ RefAt B wr rb n ((a + 1) % n) (upT L j) (.slice A L.length c) ∧ Fr (fun k => k = rb ∨ (Value.slice A L.length c).ownBlock = some k) w wr) (fun i _ => L.length - (intOf i).toNat)
  case atStart => exact ⟨0, by omega, rfl, by simpa [upT, allT] using R0, F0⟩
  case round =>
    obtain ⟨j, hj, rfl, hR, hF⟩ := hrel
    have k1 := hR.c1
    have k2 := hR.c2
    have HRj := Lib.hid hR
    have HF := Lib.hid hF
    clear R0 F0 d0 d1 df
    by_cases hlt : j < L.length
    · obtain ⟨⟨x, y⟩, hx⟩ : ∃ p, L[j]? = some p := ⟨L[j], List.getElem?_eq_getElem _⟩
      obtain ⟨g, c', e, hne, hg, q0, q1, qf⟩ := hR.spot (upT_at hx)
      rw [upT_length] at e
      cases e
      have HX := Lib.hid hx
      clear hx hR hF q0
      go_wp2
      go_roundw
      case rel =>
        refine ⟨j + 1, by omega, by go_num, ?_, HF.out.step (Fr.setCell wr ⟨g, j * 2 + 1, none⟩ (.bool true)) (fun i hi => .inl (.inr (by rw [show i = g from hi]; rfl)))⟩
        have hR2 := HRj.out
        rw [← upT_length L j] at hR2
        have := hR2.put (upT_at HX.out) true
        rw [upT_succ HX.out, upT_length] at this
        exact this
      case measure => simp [intOf]; omega
    · obtain rfl : j = L.length := by omega
      clear hR hF
      go_wp2
      go_ret2
      have hR2 := HRj.out
      rw [upT_all] at hR2
      exact ⟨rfl, hR2, HF.out⟩
end Go.Proofs.Ytfmicncpaaioaaa.Sc
