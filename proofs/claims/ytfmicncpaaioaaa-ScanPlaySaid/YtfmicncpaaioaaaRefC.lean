/- The document's scan serves one who waits. Conditions: those that each theorem names. -/
import Derived.Test.YtfmicncpaaioaaaRefB
namespace Go.Proofs.Ytfmicncpaaioaaa.Sc
open Go.RowKit Go.Maps Go.Sort Go.Shelf
open Go.Proofs.Ytfmicncpaaioaaa.Ma
set_option linter.unusedVariables false
set_option linter.unusedSimpArgs false
theorem cellsOf_set {L : List Ent} (b : Bool) : ∀ {j : Nat} {p : Ent}, L[j]? = some p → (cellsOf L).set (j * 2 + 1) (.bool b) = cellsOf (L.set j (p.1, b)) := by
  induction L with
  | nil => intro j p h; simp at h
  | cons y r ih =>
    intro j p h
    cases j with
    | zero => simp at h; subst h; simp [cellsOf]
    | succ j =>
      have := ih (j := j) (p := p) (by simpa using h)
      rw [show (j + 1) * 2 + 1 = (j * 2 + 1) + 1 + 1 by omega]
      simpa [cellsOf] using this
theorem row_put {w : World} {B g c j : Nat} {L : List Ent} {p : Ent} (h : w.ownsRow B 59 2 (.slice (some ⟨g, 0, none⟩) L.length c) L.length (cellsOf L)) (hp : L[j]? = some p) (b : Bool) :
    (w.setCell ⟨g, j * 2 + 1, none⟩ (.bool b)).ownsRow B 59 2 (.slice (some ⟨g, 0, none⟩) L.length c) (L.set j (p.1, b)).length (cellsOf (L.set j (p.1, b))) := by
  refine ⟨by rw [cellsOf_length], ?_⟩
  rcases h.2 with ⟨e, _⟩ | ⟨g', cap, cur, e, hb, hg, hc, hm, hcs, hcur⟩
  · cases e
  · cases e
    refine .inr ⟨g, c, cur.setIfInBounds (j * 2 + 1) (.bool b), by rw [List.length_set], hb, heap_setCell_at hg _, by rw [List.length_set]; exact hc, hm, by simpa using hcs, ?_⟩
    rw [List.length_set, ← cellsOf_set b hp, ← hcur, Array.toList_setIfInBounds, List.take_set]
theorem setK_at {L : List Ent} (hr : Rising L) {v : Bool} : ∀ {j : Nat} {p : Ent}, L[j]? = some p → setK p.1 v L = L.set j (p.1, v) := by
  induction L with
  | nil => intro j p h; simp at h
  | cons y r ih =>
    intro j p h
    have h' := List.pairwise_cons.1 hr
    have e : setK p.1 v (y :: r) = (if y.1 = p.1 then (p.1, v) else y) :: setK p.1 v r := rfl
    cases j with
    | zero =>
      simp at h
      subst h
      rw [e, if_pos rfl]
      have e3 : setK y.1 v r = r := by
        unfold setK
        refine (List.map_congr_left (fun q hq => ?_)).trans (List.map_id r)
        have := h'.1 q hq
        rw [if_neg (by omega)]
        rfl
      rw [e3]
      rfl
    | succ j =>
      have hp : r[j]? = some p := by simpa using h
      have := h'.1 p (List.mem_of_getElem? hp)
      rw [e, if_neg (by omega), ih h'.2 hp]
      rfl
theorem has_place {L : List Ent} (hr : Rising L) {id : Int} (h : Ma.has L id = true) : ∃ (j : Nat) (y : Bool), L[j]? = some (id, y) ∧ plc L id = j ∧ Ma.look L id = y := by
  obtain ⟨p, hp, rfl⟩ := has_iff.1 h
  obtain ⟨j, hj⟩ := List.getElem?_of_mem hp
  refine ⟨j, p.2, hj, plc_at hj rfl (fun q hq e => ?_), look_mem hr hp⟩
  obtain ⟨k, hk, e2⟩ := List.mem_take_iff_getElem.1 hq
  have hjl := (List.getElem?_eq_some_iff.1 hj)
  have := (List.pairwise_iff_getElem.1 hr) k j (by omega) hjl.1 (by omega)
  rw [e2, hjl.2] at this
  omega
theorem rserve_at (B rb : Nat) (n a id : Int) (L : List Ent) (v : Value) (w : World) (h : RefAt B w rb n a L v) (hr : Rising L) :
    Calls Try.prog 16 #[.pointer (some ⟨rb, 0, none⟩), .int .i64 id] w fun e w' => e = .returned (.int .i64 (serF L id).1) ∧ RefAt B w' rb n a (serF L id).2 v ∧ Fr (fun k => v.ownBlock = some k) w w' := by
  have hplc := place_at B rb n a id L v w h
  have HR := Lib.hid h
  cases hh : Ma.has L id
  · rw [show serF L id = (4, L) by simp [serF, hh]]
    have hp : plc L id = -1 := by simp [plc, hh]
    rw [hp] at hplc
    have HP := Lib.hid hplc
    clear h hh hp hplc
    go_enter Try.func16, Try.ntmps16
    go_wp2_with (go_at_call 25; refine HP.out.mono ?_; rintro e w' ⟨rfl, rfl⟩)
    go_ret
    exact ⟨rfl, HR.out, Fr.refl _ _⟩
  · obtain ⟨j, y, hj, hp, hlk⟩ := has_place hr hh
    rw [hp] at hplc
    have HP := Lib.hid hplc
    obtain ⟨A, c, rfl, hc, hcm, hn, hA⟩ := row_cells h.2
    have hjl := (List.getElem?_eq_some_iff.1 hj).1
    obtain ⟨x, rfl⟩ : ∃ a, A = some a := by
      cases A with
      | none => have := (hn rfl).1; rw [this] at hjl; simp at hjl
      | some a => exact ⟨a, rfl⟩
    obtain ⟨g, rfl, _, hg, ⟨cur, hcur⟩, hcell⟩ := hA x rfl
    obtain ⟨d0, d1⟩ := hcell j _ hj
    have c2 := h.c2
    have hfz : w.frozen? ⟨g, j * 2 + 1, none⟩ = false := by
      have : ∃ u, cur[j * 2 + 1]? = some u := by
        simp [World.cell?, hcur] at d1
        exact ⟨_, d1⟩
      obtain ⟨u, hu⟩ := this
      exact free_of_heap hcur (Array.getElem?_eq_some_iff.1 hu).1
    have HJ := Lib.hid hj
    have hne := h.ne g rfl
    have hpos : ¬ (j : Int) < 0 := by omega
    cases y
    · rw [show serF L id = (4, L) by simp [serF, hlk]]
      clear h hh hp hplc hlk hj hn hA hcell hcur
      go_enter Try.func16, Try.ntmps16
      go_wp2_with (go_at_call 25; refine HP.out.mono ?_; rintro e w' ⟨rfl, rfl⟩)
      go_ret
      exact ⟨rfl, HR.out, Fr.refl _ _⟩
    · have hset : setK id false L = L.set j (id, false) := setK_at hr hj
      rw [show serF L id = (0, L.set j (id, false)) by simp [serF, hlk, hh, hset]]
      clear h hh hp hplc hlk hj hn hA hcell hcur hset
      go_enter Try.func16, Try.ntmps16
      go_wp2_with (go_at_call 25; refine HP.out.mono ?_; rintro e w' ⟨rfl, rfl⟩)
      go_ret
      have hrow := row_put HR.out.2 HJ.out false
      refine ⟨rfl, ⟨?_, hrow⟩, (Fr.setCell w ⟨g, j * 2 + 1, none⟩ (.bool false)).mono (fun k hk => by rw [hk]; rfl)⟩
      exact (Fr.setCell w ⟨g, j * 2 + 1, none⟩ (.bool false)).keep HR.out.1 (fun e => hne e.symm)
end Go.Proofs.Ytfmicncpaaioaaa.Sc
