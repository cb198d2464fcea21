/- Remove: one less in the queue. Conditions: those that each theorem names. -/
import Derived.Lib.SliceRun
import Derived.Shelf.RegionOpenPlain
import Derived.Test.YtcallnhkojgnmaaPsh
namespace Go.Proofs.Ytcallnhkojgnmaa.Q
open Go.RowKit Go.Sort Go.Shelf
open Go.Proofs.Ytcallnhkojgnmaa.Ma
set_option linter.unusedVariables false
set_option linter.unusedSimpArgs false
theorem push_at (B b : Nat) (L : List It) (v : Value) (x : It) (w : World) (h : QAt B w b L v) (hB : B ≤ w.heap.size) (hlen : L.length ≤ 8) :
    Calls Try.prog 11 #[.pointer (some ⟨b, 0, none⟩), .agg (enc4 x).toArray] w fun e w' => e = .returned (.int .i64 (pushF L x).1) ∧ ∃ v', QAt B w' b (pushF L x).2 v' ∧ Fr (fun k => k = b ∨ v.ownBlock = some k) w w' ∧ ∀ g, v'.ownBlock = some g → v.ownBlock = some g ∨ w.heap.size ≤ g := by
  obtain ⟨x1, x2, x3, x4⟩ := x
  by_cases hm : may (x1, x2, x3, x4)
  · by_cases hh : hasQ L x1 = true ∨ (hasQ L x1 = false ∧ L.length = 8)
    · have e : pushF L (x1, x2, x3, x4) = (if hasQ L x1 = true then 2 else 230, L) := by
        unfold pushF
        rcases hh with h1 | ⟨h1, h2⟩
        · rw [if_pos (.inr h1), if_pos h1]
        · rw [if_neg (by intro h; rcases h with h | h; exact h hm; rw [h1] at h; cases h), if_pos h2, h1]; rfl
      rw [e]
      exact (push_there B b L v x1 x2 x3 x4 w h hlen hm hh).mono fun e w' ⟨he, hb⟩ => ⟨he, v, h.below hb, (Fr.of_below hb).mono (fun _ h => h.elim), fun _ h => .inl h⟩
    · have h1 : hasQ L x1 = false := by
        cases e : hasQ L x1
        · rfl
        · exact absurd (.inl e) hh
      have h2 : L.length < 8 := by
        have : ¬ L.length = 8 := fun e => hh (.inr ⟨h1, e⟩)
        omega
      have e : pushF L (x1, x2, x3, x4) = (0, L ++ [(x1, x2, x3, x4)]) := by
        unfold pushF
        rw [if_neg (by intro h; rcases h with h | h; exact h hm; rw [h1] at h; cases h), if_neg (by omega)]
      rw [e]
      exact push_go B b L v x1 x2 x3 x4 w h hB h2 hm h1
  · have e : pushF L (x1, x2, x3, x4) = (2, L) := by
      unfold pushF
      rw [if_pos (.inl hm)]
    rw [e]
    exact (push_bad B b L v x1 x2 x3 x4 w h hlen hm).mono fun e w' ⟨he, hb⟩ => ⟨he, v, h.below hb, (Fr.of_below hb).mono (fun _ h => h.elim), fun _ h => .inl h⟩
/-- What Remove answers, and leaves. -/
def remF (L : List It) (id : Int) : Int × List It := if hasQ L id = true then (0, L.eraseIdx (L.findIdx fun p => p.1 == id)) else (4, L)
theorem plc_idx {L : List It} {id : Int} (h : hasQ L id = true) : plc L id = ((L.findIdx fun p => p.1 == id : Nat) : Int) := by unfold plc; rw [if_pos h]
theorem zero31 (w : World) : (zeroValue 31).run Try.prog w = .ok (.agg #[.int .i64 0, .int .i64 0, .int .i64 0, .int .i64 0]) w := by kernel_rfl
abbrev z4 : List Value := [.int .i64 0, .int .i64 0, .int .i64 0, .int .i64 0]
theorem run_clear_one (w : World) (ty : TypeId) (b o c : Nat) (hc : ∀ j, j < 4 → (w.cell? ⟨b, o + j, none⟩).isSome = true) (hf : ∀ j, j < 4 → w.frozen? ⟨b, o + j, none⟩ = false) :
    (Builtin.clear_ #[40] ty #[.slice (some ⟨b, o, none⟩) 1 c]).run Try.prog w = .ok (.tuple #[]) (w.setCells b o z4) := by
  have hst := run_storeCells_cells (P := Try.prog) b o z4 0 w (by simpa using hc) (by simpa using hf) (by intro v hv'; simp [z4] at hv'; subst hv'; rfl)
  simp only [Nat.add_zero] at hst
  have hz : (Builtin.zeroCells (Value.agg #[.int .i64 0, .int .i64 0, .int .i64 0, .int .i64 0]).cells 1).toList = z4 := by kernel_rfl
  simp [Builtin.clear_, run_underlying Try.underlying40, zero31, hz, hst]
set_option maxRecDepth 100000 in
set_option maxHeartbeats 1000000 in
theorem delete_at (B g c j : Nat) (L : List It) (w : World) (h : w.ownsRow B 31 4 (.slice (some ⟨g, 0, none⟩) L.length c) L.length (cellsK enc4 L)) (hj : j < L.length) (hlen : L.length ≤ 8) :
    Calls Try.prog 26 #[.slice (some ⟨g, 0, none⟩) L.length c, .int .i64 j, .int .i64 ((j : Int) + 1)] w fun e w' => ∃ v', e = .returned v' ∧ w'.ownsRow B 31 4 v' (L.eraseIdx j).length (cellsK enc4 (L.eraseIdx j)) ∧ v'.ownBlock = some g ∧ Fr (fun k => k = g) w w' := by
  obtain ⟨m, hm⟩ : ∃ m : Nat, m = j + 1 := ⟨_, rfl⟩
  rw [show (j : Int) + 1 = (m : Int) by omega]
  have HM := Lib.hid hm
  have b1 : (0 : Int) ≤ (j : Int) := by omega
  have hlc : L.length ≤ c ∧ c ≤ 9223372036854775807 := by
    rcases h.2 with ⟨e, _⟩ | ⟨g', cap, cur, e, _, hh, h1, h2, _⟩
    · cases e
    · cases e; exact ⟨h1, by unfold maxLen at h2; omega⟩
  have b2 : (j : Int) ≤ (c : Int) := by omega
  have b3 : (m : Int) ≤ (L.length : Int) := by omega
  have b4 : (j : Int) ≤ (m : Int) := by omega
  have b5 : (L.length : Int) ≤ (c : Int) := by omega
  have b6 : ¬ (j : Int) = (m : Int) := by omega
  have b7 : (0 : Int) ≤ (m : Int) := by omega
  have b8 : (m : Int) ≤ (c : Int) := by omega
  obtain ⟨hown0, g', cap, cur, e1, hBg, hg, hc1, hc2, hcs, hcur⟩ : ∃ (_ : True) (g' cap : Nat) (cur : Array Value), Value.slice (some ⟨g, 0, none⟩) L.length c = .slice (some ⟨g', 0, none⟩) L.length cap ∧ B ≤ g' ∧ w.heap[g']? = some (.cells cur 31 (0, 0)) ∧ L.length ≤ cap ∧ cap ≤ maxLen ∧ cur.size = cap * 4 ∧ cur.toList.take (L.length * 4) = cellsK enc4 L := by
    rcases h.2 with ⟨e, _⟩ | ⟨g', cap, cur, e, r⟩
    · cases e
    · exact ⟨trivial, g', cap, cur, e, r⟩
  cases e1
  -- the first step: what stands behind is laid at j
  obtain ⟨news, hnews⟩ : ∃ news, news = cellsK enc4 (L.drop m) := ⟨_, rfl⟩
  have hnl : news.length = (L.length - m) * 4 := by rw [hnews, cellsK_length enc4_len, List.length_drop]
  have hsplit : cellsK enc4 L = cellsK enc4 (L.take j) ++ enc4 (L[j]) ++ news := by
    rw [hnews, ← cellsK_one (enc := enc4) L[j], ← cellsK_append, ← cellsK_append, hm, List.append_assoc, List.singleton_append, List.getElem_cons_drop, List.take_append_drop]
  have htl : (cellsK enc4 (L.take j)).length = j * 4 := by rw [cellsK_length enc4_len, List.length_take]; omega
  have hli := row_lies enc4_len h
  obtain ⟨ad, had, hsrc⟩ : ∃ A : Addr, (if c = m then (⟨g, 0, none⟩ : Addr) else ⟨g, m * 4, none⟩) = A ∧ Hid (∀ t u, news[t]? = some u → w.drew.cell? (A.add t) = some u) := by
    by_cases hcm : c = m
    · refine ⟨_, rfl, fun t u hu => ?_⟩
      have h0 : news.length = 0 := by rw [hnl]; omega
      rw [List.length_eq_zero_iff.1 h0] at hu
      simp at hu
    · refine ⟨_, rfl, fun t u hu => ?_⟩
      rw [if_neg hcm]
      have := lies_news enc4_len hli (Below.refl w.heap.size w) (n := L.length) m t u (by rw [List.take_of_length_le (by simp)]; rw [← hnews]; exact hu)
      rw [Nat.zero_add] at this
      exact this
  have hs3 : Hid (∀ t, t < news.length → (w.drew.cell? ⟨g, 0 + j * 4 + t, none⟩).isSome = true ∧ w.drew.frozen? ⟨g, 0 + j * 4 + t, none⟩ = false) := by
    intro t ht
    rw [hnl] at ht
    have hlt : 0 + j * 4 + t < cur.size := by omega
    exact ⟨by show (w.cell? _).isSome = true; rw [cell_of_heap hg (Array.getElem?_eq_getElem hlt)]; rfl, free_of_heap hg hlt⟩
  have hone : Hid (∀ u ∈ news, u.oneCell' = true) := by
    intro u hu
    rw [hnews] at hu
    obtain ⟨y, _, hy⟩ := List.mem_flatMap.1 hu
    exact enc4_one y u hy
  obtain ⟨W1, hW1⟩ : ∃ W1, W1 = w.drew.setCells g (0 + j * 4) news := ⟨_, rfl⟩
  have hg1 : W1.heap[g]? = some (.cells (setMany cur (0 + j * 4) news) 31 (0, 0)) := by rw [hW1]; exact heap_setCells_at news (w := w.drew) hg
  have hf1 : Fr (fun k => k = g) w W1 := by rw [hW1]; exact (Fr.drewN _ w 1).trans (Fr.setCells news w.drew g (0 + j * 4))
  have hsz1 : (setMany cur (0 + j * 4) news).size = c * 4 := by rw [size_setMany, hcs]
  obtain ⟨n', hn'⟩ : ∃ n', n' = j + (L.length - m) := ⟨_, rfl⟩
  have hn2 : n' + 1 = L.length := by omega
  have hcl := run_clear_one W1 0 g (n' * 4) (c - n') (fun t ht => by rw [cell_of_heap hg1 (Array.getElem?_eq_getElem (by rw [hsz1]; omega))]; rfl) (fun t ht => free_of_heap hg1 (by rw [hsz1]; omega))
  have hcl2 : ∀ ty, (Builtin.clear_ #[40] ty #[.slice (some ⟨g, n' * 4, none⟩) 1 (c - n')]).run Try.prog W1 = .ok (.tuple #[]) (W1.setCells g (n' * 4) z4) := fun ty => run_clear_one W1 ty g (n' * 4) (c - n') (fun t ht => by rw [cell_of_heap hg1 (Array.getElem?_eq_getElem (by rw [hsz1]; omega))]; rfl) (fun t ht => free_of_heap hg1 (by rw [hsz1]; omega))
  -- what lies there at the end
  have hfin : (W1.setCells g (n' * 4) z4).ownsRow B 31 4 (.slice (some ⟨g, 0, none⟩) (L.eraseIdx j).length c) (L.eraseIdx j).length (cellsK enc4 (L.eraseIdx j)) ∧ Fr (fun k => k = g) w (W1.setCells g (n' * 4) z4) := by
    have hel : (L.eraseIdx j).length = n' := by rw [List.length_eraseIdx_of_lt hj]; omega
    refine ⟨row_cut enc4_len hBg (heap_setCells_at z4 hg1) (by rw [hel]; omega) hc2 (by rw [size_setMany, hsz1]) ?_, hf1.trans (Fr.setCells _ _ _ _)⟩
    rw [hel, setMany_list _ _ _ (by rw [hsz1]; show n' * 4 + 4 ≤ _; omega), List.append_assoc, List.take_append_of_le_length (by simp [hsz1]; omega), List.take_take, Nat.min_self, setMany_list _ _ _ (by rw [hcs, hnl]; omega), Nat.zero_add]
    have e3 : cur.toList.take (j * 4) = cellsK enc4 (L.take j) := by
      have e4 : cur.toList.take (j * 4) = (cur.toList.take (L.length * 4)).take (j * 4) := by rw [List.take_take, Nat.min_eq_left (by omega)]
      rw [e4, hcur, hsplit, List.append_assoc, List.take_append_of_le_length (by omega), List.take_of_length_le (by omega)]
    rw [e3, List.take_append_of_le_length (by rw [List.length_append]; omega), List.take_of_length_le (by rw [List.length_append]; omega), hnews, ← cellsK_append, List.eraseIdx_eq_take_drop_succ, hm]
  have HF := Lib.hid (show (W1.setCells g (n' * 4) z4).ownsRow B 31 4 (.slice (some ⟨g, 0, none⟩) n' c) (L.eraseIdx j).length (cellsK enc4 (L.eraseIdx j)) ∧ Fr (fun k => k = g) w (W1.setCells g (n' * 4) z4) by
    have hel : (L.eraseIdx j).length = n' := by rw [List.length_eraseIdx_of_lt hj]; omega
    have := hfin
    rw [hel] at this ⊢
    exact this)
  have HW := Lib.hid hW1
  have HNL := Lib.hid hnl
  have HN' := Lib.hid hn'
  have HEL : Hid ((L.eraseIdx j).length = n') := by rw [List.length_eraseIdx_of_lt hj]; show _ = _; omega
  have e10 : (n' : Int) ≤ (L.length : Int) := by omega
  have e11 : L.length - n' = 1 := by omega
  have e12 : ¬ (n' : Int) < 0 := by omega
  obtain ⟨i0, hi, hz0, hz1, hz2⟩ := info_parts info31
  clear h hm hfin hW1 hnl hn' hg hg1 hf1 hsz1 hsplit htl hli hnews hcur hcs hcl hBg hc2
  have hn'2 : j + (L.length - m) = n' := HN'.out.symm
  go_enter Try.func26, Try.ntmps26
  by_cases hcm : c = m
  · rw [if_pos hcm] at had
    subst had
    have hnn : news = [] := List.length_eq_zero_iff.1 (by rw [HNL.out]; omega)
    subst hnn
    obtain rfl : n' = j := by omega
    have e13 : ¬ c = n' := by omega
    have e14 : (n' : Int) ≤ (c : Int) := by omega
    subst hcm
    clear hn'2 hn2
    go_wp2
    go_region_law ((refine step_append_room rfl (.tmp 22) (.tmp 25) 40 rfl 31 i0 4 Try.underlying40 hi hz1 g 0 n' c (by rfl) ⟨g, 0, none⟩ 0 0 [] (by rfl) rfl (fun i u hu => absurd hu (by simp)) (fun u hu => absurd hu (by simp)) (by omega) (fun t ht => absurd ht (by simp)) ?_; rw [show w.drew.setCells g (0 + n' * 4) [] = W1 from HW.out.symm]))
    go_wp2
    go_ret
    exact ⟨_, rfl, HF.out.1, rfl, HF.out.2⟩
  · rw [if_neg hcm] at had
    subst had
    go_wp2
    go_region_law ((refine step_append_room rfl (.tmp 22) (.tmp 25) 40 rfl 31 i0 4 Try.underlying40 hi hz1 g 0 j c (by rfl) ⟨g, m * 4, none⟩ (L.length - m) (c - m) news (by rfl) HNL.out hsrc.out hone.out (by omega) hs3.out ?_; rw [← HW.out]))
    have e13 : ¬ c = n' := by omega
    have e14 : (n' : Int) ≤ (c : Int) := by omega
    go_wp2
    go_ret
    exact ⟨_, rfl, HF.out.1, rfl, HF.out.2⟩
end Go.Proofs.Ytcallnhkojgnmaa.Q
