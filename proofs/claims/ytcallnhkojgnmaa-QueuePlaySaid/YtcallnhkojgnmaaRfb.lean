/- The document's Remove and Age. Conditions: those that each theorem names. -/
import Derived.Test.YtcallnhkojgnmaaRf
namespace Go.Proofs.Ytcallnhkojgnmaa.Q
open Go.RowKit Go.Sort Go.Shelf
open Go.Proofs.Ytcallnhkojgnmaa.Ma
set_option linter.unusedVariables false
set_option linter.unusedSimpArgs false
theorem rem_row {w : World} {B : Nat} {v : Value} {L : List It} {j : Nat} (hj : j < L.length) {n : Nat} {xs : List Value} (hn : n = L.length - 1) (hx : xs = cellsK enc4 (L.take j) ++ cellsK enc4 (L.drop (j + 1))) (h : w.ownsRow B 37 4 v n xs) : w.ownsRow B 37 4 v (L.eraseIdx j).length (cellsK enc4 (L.eraseIdx j)) := by
  have e2 : cellsK enc4 (L.eraseIdx j) = xs := by rw [List.eraseIdx_eq_take_drop_succ, hx, cellsK_append]
  have e3 : (L.eraseIdx j).length = n := by rw [List.length_eraseIdx_of_lt hj, hn]
  rw [e2, e3]
  exact h
theorem cellsK_onecell (L : List It) : ∀ u ∈ cellsK enc4 L, u.oneCell' = true := by
  intro u hu
  obtain ⟨y, _, hy⟩ := List.mem_flatMap.1 hu
  exact enc4_one y u hy
theorem news_take {w W : World} {g : Nat} {L : List It} (hL : Lies enc4 4 w (some ⟨g, 0, none⟩) L) (hb : Below w.heap.size w W) (j : Nat) : ∀ i u, (cellsK enc4 (L.take j))[i]? = some u → W.cell? ((⟨g, 0, none⟩ : Addr).add i) = some u := by
  have := lies_news enc4_len hL hb (n := j) 0
  simpa using this
theorem news_drop {w W : World} {g : Nat} {L : List It} (hL : Lies enc4 4 w (some ⟨g, 0, none⟩) L) (hb : Below w.heap.size w W) (m : Nat) : ∀ i u, (cellsK enc4 (L.drop m))[i]? = some u → W.cell? ((⟨g, m * 4, none⟩ : Addr).add i) = some u := by
  have := lies_news enc4_len hL hb (n := L.length) m
  rw [List.take_of_length_le (by simp), Nat.zero_add] at this
  exact this
set_option maxRecDepth 100000 in
set_option maxHeartbeats 4000000 in
theorem rrem_some (B rb g c : Nat) (id : Int) (j : Nat) (L : List It) (w : World) (h : RefAt B w rb L (.slice (some ⟨g, 0, none⟩) L.length c)) (hB : B ≤ w.heap.size) (hlen : L.length ≤ 8) (hplc : plc L id = j) (hjl : j < L.length) :
    Calls Try.prog 14 #[.pointer (some ⟨rb, 0, none⟩), .int .i64 id] w fun e w' => e = .returned (.int .i64 0) ∧ ∃ v', RefAt B w' rb (L.eraseIdx j) v' ∧ Fr (fun k => k = rb) w w' ∧ ∀ g, v'.ownBlock = some g → w.heap.size ≤ g := by
  have hp := place_at B rb id L _ w h (by omega)
  rw [hplc] at hp
  have HP := Lib.hid hp
  have HR := Lib.hid h
  obtain ⟨hc, hcm, hg⟩ : L.length ≤ c ∧ c ≤ 9223372036854775807 ∧ g < w.heap.size := by
    rcases h.2.2 with ⟨e, _⟩ | ⟨g', cap, cur, e, _, hh, h1, h2, _⟩
    · cases e
    · cases e; exact ⟨h1, by unfold maxLen at h2; omega, lt_of_heap hh⟩
  have HL := Lib.hid (row_lies enc4_len h.2)
  have c0 := h.c0
  have f0 := h.f0
  have hrb := lt_of_heap h.1
  have K1 : Hid ((cellsK enc4 (L.take j)).length = j * 4) := by rw [cellsK_length enc4_len, List.length_take, Nat.min_eq_left (by omega)]; exact rfl
  obtain ⟨m, hm⟩ : ∃ m : Nat, m = j + 1 := ⟨_, rfl⟩
  have K2 : Hid ((cellsK enc4 (L.drop m)).length = (L.length - m) * 4) := by rw [cellsK_length enc4_len, List.length_drop]; exact rfl
  have hw1 : IntKind.i64.wrap ((j : Int) + 1) = (m : Int) := by rw [IntWalk.i64_in _ ⟨by omega, by omega⟩]; omega
  have HM := Lib.hid hm
  have b1 : (0 : Int) ≤ (j : Int) := by omega
  have b2 : (j : Int) ≤ (c : Int) := by omega
  have b3 : (m : Int) ≤ (L.length : Int) := by omega
  have b4 : (L.length : Int) ≤ (c : Int) := by omega
  have b5 : (m : Int) ≤ (c : Int) := by omega
  have b6 : (0 : Int) ≤ (m : Int) := by omega
  clear h hp hplc hm
  obtain ⟨i0, hi, hz0, hz1, hz2⟩ := info_parts info37
  go_enter Try.func14, Try.ntmps14
  go_wp2_with (go_at_call 25; refine HP.out.mono ?_; rintro e w' ⟨rfl, rfl⟩)
  by_cases hcj : c = m
  · have K3 := Lib.hid (show cellsK enc4 (L.drop (j + 1)) = [] by rw [List.drop_of_length_le (by have := HM.out; omega)]; rfl)
    subst hcj
    go_region_law ((first
      | (refine step_append_at _ (by rfl) _ _ _ (by rfl) w.heap.size 37 i0 _ 4 32 Try.underlying27 hi hz0 hz1 hz2 rfl (by omega) (.slice (some ⟨w.heap.size, 0, none⟩) 0 0) 0 [] (by rfl) (row_empty w _ _ (Nat.le_refl _)) ⟨g, 0, none⟩ j c (cellsK enc4 (L.take j)) (by rfl) K1.out (news_take HL.out (((Below.refl w.heap.size w).alloc (Nat.le_refl _) _).drew) j) (cellsK_onecell _) (by unfold maxLen; omega) (by omega) (((Below.refl w.heap.size w).alloc (Nat.le_refl _) _).drew).size ?_; intro va wa howna hgrowa hnila hloca; have hba := below_grow (((Below.refl w.heap.size w).alloc (Nat.le_refl _) _).drew) hgrowa (fun k hk => by simp [Value.ownBlock] at hk; omega); have k2a := (hba.cell (p := ⟨rb, 0, none⟩) hrb).trans c0)
      | (refine step_append_at _ (by rfl) _ _ _ (by rfl) w.heap.size 37 i0 _ 4 32 Try.underlying27 hi hz0 hz1 hz2 rfl (by omega) va (0 + j) ([] ++ cellsK enc4 (L.take j)) (by rfl) howna ⟨g, 0, none⟩ 0 0 [] (by rfl) rfl (fun i u hu => absurd hu (by simp)) (fun u hu => absurd hu (by simp)) (by unfold maxLen; omega) (by omega) hba.size ?_; intro vb wb hownb hgrowb hnilb hlocb; have hbb := below_grow hba hgrowb (fun k hk => (howna.lt k hk).1); have k2 := (hbb.cell (p := ⟨rb, 0, none⟩) hrb).trans c0; have kf := (hbb.frozen (p := ⟨rb, 0, none⟩) hrb).trans f0; have hrow := rem_row hjl (by have := HM.out; omega) (by rw [K3.out]; simp) hownb; obtain ⟨A', c', rfl, _, _⟩ := row_open enc4_len hrow)))
    all_goals
      have HB := Lib.hid (HR.out.store (Fr.of_below hbb) (fun e => e) (row_base hrow hB) (fun g hg e => by have := (hrow.lt g hg).1; omega))
      have HRw := Lib.hid hrow
      clear hownb hgrowb hnilb hlocb howna hgrowa hnila hloca hba hbb hrow
      go_wp2
      go_ret
      exact ⟨rfl, _, HB.out.1, HB.out.2.mono (fun k hk => hk.elim (fun e => e.elim) (fun e => e)), fun g hg => (HRw.out.lt g hg).1⟩
  · go_region_law ((first
      | (refine step_append_at _ (by rfl) _ _ _ (by rfl) w.heap.size 37 i0 _ 4 32 Try.underlying27 hi hz0 hz1 hz2 rfl (by omega) (.slice (some ⟨w.heap.size, 0, none⟩) 0 0) 0 [] (by rfl) (row_empty w _ _ (Nat.le_refl _)) ⟨g, 0, none⟩ j c (cellsK enc4 (L.take j)) (by rfl) K1.out (news_take HL.out (((Below.refl w.heap.size w).alloc (Nat.le_refl _) _).drew) j) (cellsK_onecell _) (by unfold maxLen; omega) (by omega) (((Below.refl w.heap.size w).alloc (Nat.le_refl _) _).drew).size ?_; intro va wa howna hgrowa hnila hloca; have hba := below_grow (((Below.refl w.heap.size w).alloc (Nat.le_refl _) _).drew) hgrowa (fun k hk => by simp [Value.ownBlock] at hk; omega); have k2a := (hba.cell (p := ⟨rb, 0, none⟩) hrb).trans c0)
      | (refine step_append_at _ (by rfl) _ _ _ (by rfl) w.heap.size 37 i0 _ 4 32 Try.underlying27 hi hz0 hz1 hz2 rfl (by omega) va (0 + j) ([] ++ cellsK enc4 (L.take j)) (by rfl) howna ⟨g, m * 4, none⟩ (L.length - m) (c - m) (cellsK enc4 (L.drop m)) (by rfl) K2.out (news_drop HL.out hba m) (cellsK_onecell _) (by unfold maxLen; omega) (by omega) hba.size ?_; intro vb wb hownb hgrowb hnilb hlocb; have hbb := below_grow hba hgrowb (fun k hk => (howna.lt k hk).1); have k2 := (hbb.cell (p := ⟨rb, 0, none⟩) hrb).trans c0; have kf := (hbb.frozen (p := ⟨rb, 0, none⟩) hrb).trans f0; have hrow := rem_row hjl (by have := HM.out; omega) (by rw [← HM.out]; simp) hownb; obtain ⟨A', c', rfl, _, _⟩ := row_open enc4_len hrow)))
    all_goals
      have HB := Lib.hid (HR.out.store (Fr.of_below hbb) (fun e => e) (row_base hrow hB) (fun g hg e => by have := (hrow.lt g hg).1; omega))
      have HRw := Lib.hid hrow
      clear hownb hgrowb hnilb hlocb howna hgrowa hnila hloca hba hbb hrow
      go_wp2
      go_ret
      exact ⟨rfl, _, HB.out.1, HB.out.2.mono (fun k hk => hk.elim (fun e => e.elim) (fun e => e)), fun g hg => (HRw.out.lt g hg).1⟩
theorem rrem_at (B rb : Nat) (id : Int) (L : List It) (v : Value) (w : World) (h : RefAt B w rb L v) (hB : B ≤ w.heap.size) (hlen : L.length ≤ 8) :
    Calls Try.prog 14 #[.pointer (some ⟨rb, 0, none⟩), .int .i64 id] w fun e w' => e = .returned (.int .i64 (remF L id).1) ∧ ∃ v', RefAt B w' rb (remF L id).2 v' ∧ Fr (fun k => k = rb) w w' ∧ ∀ g, v'.ownBlock = some g → v.ownBlock = some g ∨ w.heap.size ≤ g := by
  cases hh : hasQ L id
  · have hp := place_at B rb id L v w h (by omega)
    rw [plc_out hh] at hp
    rw [show remF L id = (4, L) by unfold remF; rw [if_neg (by rw [hh]; simp)]]
    have HP := Lib.hid hp
    have HR := Lib.hid h
    clear h hh hp
    go_enter Try.func14, Try.ntmps14
    go_wp2_with (go_at_call 25; refine HP.out.mono ?_; rintro e w' ⟨rfl, rfl⟩)
    go_ret
    exact ⟨rfl, v, HR.out, Fr.refl _ _, fun _ h => .inl h⟩
  · rw [show remF L id = (0, L.eraseIdx (L.findIdx fun p => p.1 == id)) by unfold remF; rw [if_pos hh]]
    have hlt : (L.findIdx fun p => p.1 == id) < L.length := by
      obtain ⟨q, hq, hid⟩ := hasQ_iff.1 hh
      exact List.findIdx_lt_length_of_exists ⟨q, hq, by simpa using hid⟩
    rcases h.2.2 with ⟨rfl, hn⟩ | ⟨g, cap, cur, rfl, _⟩
    · omega
    · exact (rrem_some B rb g cap id _ L w h hB hlen (plc_idx hh) hlt).mono fun e w' ⟨he, v', h1, h2, h3⟩ => ⟨he, v', h1, h2, fun g hg => .inr (h3 g hg)⟩
set_option maxHeartbeats 1000000 in
theorem rage_at (B rb : Nat) (L : List It) (v : Value) (w : World) (h : RefAt B w rb L v) (hlen : L.length ≤ 8) (hm : ∀ x ∈ L, may x) :
    Calls Try.prog 16 #[.pointer (some ⟨rb, 0, none⟩)] w fun e w' => e = .returned (.tuple #[]) ∧ RefAt B w' rb (ageF L) v ∧ Fr (fun k => v.ownBlock = some k) w w' := by
  have q0 := h.c0
  have HQ := Lib.hid h
  obtain ⟨A, c, rfl, hlc, hcm⟩ := row_open enc4_len h.2
  have HM := Lib.hid hm
  clear h hm
  go_enter Try.func16, Try.ntmps16
  go_wp2
  go_loopw [2] (fun i wr => ∃ j : Nat, j ≤ L.length ∧ i = .int .i64 j ∧ RefAt B wr rb (upA L j) (.slice A L.length c) ∧ Fr (fun k => (Value.slice A L.length c).ownBlock = some k) w wr) (fun i _ => L.length - (intOf i).toNat)
  case atStart => exact ⟨0, by omega, rfl, by rw [upA_zero]; exact HQ.out, Fr.refl _ _⟩
  case round =>
    obtain ⟨j, hj, rfl, hQ, hF⟩ := hrel
    have k1 := hQ.c0
    have HQj := Lib.hid hQ
    have HF := Lib.hid hF
    clear q0
    by_cases hlt : j < L.length
    · obtain ⟨⟨x1, x2, x3, x4⟩, hx⟩ : ∃ p, L[j]? = some p := ⟨L[j], List.getElem?_eq_getElem _⟩
      have hmay := HM.out _ (List.mem_of_getElem? hx)
      unfold may at hmay
      dsimp only at hmay
      obtain ⟨g, c', e, _, _, _, _, hcell⟩ := row_own enc4_len (by have := hQ.2; exact this) (upA_at hx)
      rw [upA_length] at e
      cases e
      obtain ⟨q3, f3⟩ := hcell 3 _ rfl
      have HX := Lib.hid hx
      have m1 := hmay.2.2.1
      have m2 := hmay.2.2.2
      clear hx hQ hF hcell hmay
      have hne := HQj.out.ne g rfl
      by_cases h30 : x4 < 1073741824
      · go_wp2
        go_roundw
        case rel =>
          have hrow := HQj.out.2
          rw [← upA_length L j] at hrow
          have hs := row_set enc4_len (i := 3) (y := tick (x1, x2, x3, x4)) (u := .int .i64 (x4 + 1)) hrow (upA_at HX.out) (by omega) (by unfold tick; dsimp only; rw [show min (x4 + 1) 1073741824 = x4 + 1 by omega]; rfl)
          rw [upA_succ HX.out, upA_length, ← upA_length L (j + 1)] at hs
          refine ⟨j + 1, by omega, by go_num, ⟨?_, ?_⟩, HF.out.trans ((Fr.setCell wr ⟨g, j * 4 + 3, none⟩ (.int .i64 (x4 + 1))).mono (fun k hk => by rw [show k = g from hk]; rfl))⟩
          · exact (Fr.setCell wr ⟨g, j * 4 + 3, none⟩ (.int .i64 (x4 + 1))).keep HQj.out.1 (fun e => hne e.symm)
          · rw [upA_length] at hs ⊢
            exact hs
        case measure => simp [intOf]; omega
      · obtain rfl : x4 = 1073741824 := by omega
        go_wp2
        go_roundw
        case rel =>
          refine ⟨j + 1, by omega, by go_num, ?_, HF.out⟩
          have e5 : upA L (j + 1) = upA L j := by
            rw [← upA_succ HX.out]
            have e6 : tick (x1, x2, x3, 1073741824) = (x1, x2, x3, 1073741824) := by unfold tick; dsimp only; rw [show min ((1073741824 : Int) + 1) 1073741824 = 1073741824 by decide]
            rw [e6]
            refine List.ext_getElem? fun i => ?_
            rw [List.getElem?_set]
            split
            · rename_i e7
              subst e7
              rw [upA_at HX.out]
              simp [upA_length, hlt]
            · rfl
          rw [e5]
          exact HQj.out
        case measure => simp [intOf]; omega
    · obtain rfl : j = L.length := by omega
      clear hQ hF
      go_wp2
      go_end0
      exact ⟨rfl, by rw [← upA_all]; exact HQj.out, HF.out⟩
end Go.Proofs.Ytcallnhkojgnmaa.Q
