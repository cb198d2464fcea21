/- The document's scan takes one more, at its place, among others. Conditions: those that each theorem names. -/
import Derived.Test.YtfmicncpaaioaaaRefF
namespace Go.Proofs.Ytfmicncpaaioaaa.Sc
open Go.RowKit Go.Maps Go.Sort Go.Shelf
open Go.Proofs.Ytfmicncpaaioaaa.Ma
set_option linter.unusedVariables false
set_option linter.unusedSimpArgs false
theorem news_old {w W : World} {g o : Nat} {xs : List Value} (hb : Below w.heap.size w W) (hg : g < w.heap.size) (h : ∀ j u, xs[j]? = some u → w.cell? ⟨g, o + j, none⟩ = some u) :
    ∀ j u, xs[j]? = some u → W.cell? ((⟨g, o, none⟩ : Addr).add j) = some u := fun j u hu => by
  have e : (⟨g, o, none⟩ : Addr).add j = ⟨g, o + j, none⟩ := by
    unfold Addr.add
    split
    · rename_i e; subst e; rfl
    · rfl
  rw [e]
  exact (hb.cell (p := ⟨g, o + j, none⟩) hg).trans (h j u hu)
theorem take_cells {L : List Ent} {j : Nat} (hj : j ≤ L.length) : (cellsOf (L.take j)).length = j * 2 := by rw [cellsOf_length, List.length_take]; omega
theorem drop_cells {L : List Ent} {j : Nat} (hj : j ≤ L.length) : (cellsOf (L.drop j)).length = (L.length - j) * 2 := by rw [cellsOf_length, List.length_drop]
theorem cells_one {L : List Ent} : ∀ u ∈ cellsOf L, u.oneCell' = true := by
  intro u hu
  simp only [cellsOf, List.mem_flatMap] at hu
  obtain ⟨p, _, hp⟩ := hu
  simp at hp
  rcases hp with rfl | rfl <;> rfl
theorem cells_take_at {L : List Ent} {w : World} {g : Nat} (h : ∀ j u, (cellsOf L)[j]? = some u → w.cell? ⟨g, j, none⟩ = some u) (k : Nat) : ∀ j u, (cellsOf (L.take k))[j]? = some u → w.cell? ⟨g, 0 + j, none⟩ = some u := by
  intro j u hu
  rw [Nat.zero_add]
  refine h j u ?_
  have e : cellsOf L = cellsOf (L.take k) ++ cellsOf (L.drop k) := by rw [← cellsOf_append, List.take_append_drop]
  rw [e, List.getElem?_append_left (List.getElem?_eq_some_iff.1 hu).1]
  exact hu
theorem cells_drop_at {L : List Ent} {w : World} {g : Nat} (h : ∀ j u, (cellsOf L)[j]? = some u → w.cell? ⟨g, j, none⟩ = some u) {k : Nat} (hk : k ≤ L.length) : ∀ j u, (cellsOf (L.drop k))[j]? = some u → w.cell? ⟨g, k * 2 + j, none⟩ = some u := by
  intro j u hu
  refine h _ u ?_
  have e : cellsOf L = cellsOf (L.take k) ++ cellsOf (L.drop k) := by rw [← cellsOf_append, List.take_append_drop]
  rw [e, ← take_cells hk, List.getElem?_append_right (by omega), Nat.add_sub_cancel_left]
  exact hu
theorem row_all {B : Nat} {w : World} {L : List Ent} {g c : Nat} (h : w.ownsRow B 59 2 (.slice (some ⟨g, 0, none⟩) L.length c) L.length (cellsOf L)) : ∀ j u, (cellsOf L)[j]? = some u → w.cell? ⟨g, j, none⟩ = some u := by
  intro j u hu
  have hj := (List.getElem?_eq_some_iff.1 hu).1
  rw [cellsOf_length] at hj
  rw [World.ownsRow.cellAt h j hj, hu]
theorem row_open {w : World} {B n : Nat} {v : Value} {xs : List Value} (h : w.ownsRow B 59 2 v n xs) : ∃ A c, v = .slice A n c ∧ n ≤ c ∧ c ≤ 9223372036854775807 := by
  rcases h.2 with ⟨rfl, rfl⟩ | ⟨g, cap, cur, rfl, hb, hg, hc, hm, hcs, hcur⟩
  · exact ⟨none, 0, rfl, by omega, by omega⟩
  · exact ⟨_, cap, rfl, hc, by unfold maxLen at hm; omega⟩
theorem ins_row {w : World} {B : Nat} {v : Value} {id : Int} {L : List Ent} {j : Nat} (hj : j ≤ L.length) (hi : ins id false L = L.take j ++ (id, false) :: L.drop j) {n : Nat} {xs : List Value} (hn : n = j + 1 + (L.length - j)) (hx : xs = cellsOf (L.take j) ++ [.int .i64 id, .bool false] ++ cellsOf (L.drop j)) (h : w.ownsRow B 59 2 v n xs) : w.ownsRow B 59 2 v (ins id false L).length (cellsOf (ins id false L)) := by
  have e2 : cellsOf (ins id false L) = xs := by rw [hi, hx]; simp [cellsOf]
  rw [e2, length_ins, show L.length + 1 = n by omega]
  exact h
set_option maxRecDepth 100000 in
set_option maxHeartbeats 2000000 in
theorem rattach_some (B rb g c : Nat) (n a id : Int) (L : List Ent) (w : World) (h : RefAt B w rb n a L (.slice (some ⟨g, 0, none⟩) L.length c)) (hB : B ≤ w.heap.size) (hr : Rising L) (hlen : L.length < 4) (hh : Ma.has L id = false) :
    Calls Try.prog 12 #[.pointer (some ⟨rb, 0, none⟩), .int .i64 id] w fun e w' => e = .returned (.int .i64 0) ∧ ∃ v', RefAt B w' rb n a (ins id false L) v' ∧ Fr (fun k => k = rb) w w' := by
  have hplc := place_at B rb n a id L _ w h
  rw [show plc L id = -1 by simp [plc, hh]] at hplc
  have HP := Lib.hid hplc
  have HR := Lib.hid h
  have HN := Lib.hid (has_false.1 hh)
  obtain ⟨A, c', hAc, hc, hcm, _, hA⟩ := row_cells h.2
  cases hAc
  obtain ⟨g', eg, _, hg, _, hcell⟩ := hA _ rfl
  cases eg
  have HA := Lib.hid hcell
  have HW := Lib.hid (row_all h.2)
  have c2 := h.c2
  have f2 := h.f2
  have hrb := lt_of_heap h.1
  clear h hplc hA hcell hh
  obtain ⟨i0, hi, hz0, hz1, hz2⟩ := info_parts info59
  go_enter Try.func12, Try.ntmps12
  go_wp2_with (go_at_call 25; refine HP.out.mono ?_; rintro e w' ⟨rfl, rfl⟩)
  go_loopw [5, 6] (fun s i wr => ∃ (j : Nat) (vo : Value), j ≤ L.length ∧ i = .int .i64 j ∧ s = vo ∧ wr.ownsRow w.heap.size 59 2 vo j (cellsOf (L.take j)) ∧ Below w.heap.size w wr ∧ ∀ q ∈ L.take j, q.1 < id) (fun _ i _ => L.length - (intOf i).toNat)
  case atStart => exact ⟨0, .slice none 0 0, by omega, rfl, rfl, World.ownsRow_nil _ _ _ _, Below.refl _ _, fun q hq => by simp at hq⟩
  case round =>
    obtain ⟨j, vo, hj, rfl, rfl, hrow, hbr, hq⟩ := hrel
    have HQ := Lib.hid hq
    have HB := Lib.hid hbr
    obtain ⟨Av, cv, rfl, hcv, hcv2⟩ := row_open hrow
    have k2' := (hbr.cell (p := ⟨rb, 2, none⟩) hrb).trans c2
    clear hq
    by_cases hgo : ∃ p, L[j]? = some p ∧ p.1 < id
    · obtain ⟨⟨x, y⟩, hx, he⟩ := hgo
      dsimp only at he
      have hlt : j < L.length := (List.getElem?_eq_some_iff.1 hx).1
      obtain ⟨d0, d1⟩ := HA.out j _ hx
      have q0 := (hbr.cell (p := ⟨g, j * 2, none⟩) hg).trans d0
      have q1 := (hbr.cell (p := ⟨g, j * 2 + 1, none⟩) hg).trans d1
      have HX := Lib.hid hx
      clear hx d0 d1 hbr
      go_wp2_with (at_builtin; refine wpList_append_own_at _ rfl _ _ 39 rfl w.heap.size 59 i0 _ 2 16 Try.underlying39 hi hz0 hz1 hz2 rfl (by omega) _ _ _ rfl (hrow.alloc _) ⟨wr.heap.size, 0, none⟩ 1 1 [.int .i64 x, .bool y] rfl rfl (World.news_of_block (heap_alloc_new wr _)) (by simp [Value.oneCell']) (by unfold maxLen; omega) (by omega) (by have := HB.out.size; simp; omega) ?_; intro vo' w1 hown1 hgrow1 hnil1 hloc1)
      go_roundw
      case rel =>
        refine ⟨j + 1, _, by omega, by go_num, rfl, ?_, (HB.out.alloc HB.out.size _).grown hgrow1 (by have := HB.out.size; simp; omega) (fun k hk => (hrow.lt k hk).1), fun q hq => ?_⟩
        · rw [List.take_add_one, HX.out, cellsOf_append]
          exact hown1
        · rw [List.take_add_one, HX.out] at hq
          simp only [Option.toList_some, List.mem_append, List.mem_singleton] at hq
          rcases hq with hq | rfl
          · exact HQ.out q hq
          · exact he
      case measure => simp [intOf]; omega
    · have hst : ∀ p, L[j]? = some p → id < p.1 := fun p hp => by
        have h1 : ¬ p.1 < id := fun e => hgo ⟨p, hp, e⟩
        have h2 := HN.out p (List.mem_of_getElem? hp)
        omega
      have HIS := Lib.hid (ins_split (v := false) HQ.out hst)
      have HST := Lib.hid hst
      clear hgo hst hbr
      by_cases hlt : j < L.length
      · obtain ⟨⟨x, y⟩, hx⟩ : ∃ p, L[j]? = some p := ⟨L[j], List.getElem?_eq_getElem _⟩
        obtain ⟨d0, d1⟩ := HA.out j _ hx
        have q0 := (HB.out.cell (p := ⟨g, j * 2, none⟩) hg).trans d0
        have q1 := (HB.out.cell (p := ⟨g, j * 2 + 1, none⟩) hg).trans d1
        have he := HST.out _ hx
        dsimp only at he
        have he2 : ¬ x < id := by omega
        have hcj : ¬ c = j := by omega
        have K2 := Lib.hid (drop_cells (L := L) hj)
        clear hx d0 d1
        go_wp2_with (first
          | (at_builtin; refine wpList_append_own_at _ rfl _ _ 39 rfl w.heap.size 59 i0 _ 2 16 Try.underlying39 hi hz0 hz1 hz2 rfl (by omega) (.slice Av j cv) j (cellsOf (L.take j)) rfl (hrow.alloc _) ⟨wr.heap.size, 0, none⟩ 1 1 [.int .i64 id, .bool false] rfl rfl (World.news_of_block (heap_alloc_new wr _)) (by simp [Value.oneCell']) (by unfold maxLen; omega) (by omega) (by have := HB.out.size; simp; omega) ?_; intro va wa howna hgrowa hnila hloca; have hba := (HB.out.alloc HB.out.size _).grown hgrowa (by have := HB.out.size; simp; omega) (fun k hk => (hrow.lt k hk).1); have k2 := (hba.cell (p := ⟨rb, 2, none⟩) hrb).trans c2; have kf := (hba.frozen (p := ⟨rb, 2, none⟩) hrb).trans f2; have HOa := Lib.hid howna; have HBa := Lib.hid hba; clear hgrowa hnila hloca howna hba)
          | (at_builtin; refine wpList_append_own_at _ rfl _ _ 39 rfl w.heap.size 59 i0 _ 2 16 Try.underlying39 hi hz0 hz1 hz2 rfl (by omega) va (j + 1) (cellsOf (L.take j) ++ [.int .i64 id, .bool false]) rfl HOa.out ⟨g, j * 2, none⟩ (L.length - j) (c - j) (cellsOf (L.drop j)) rfl K2.out (news_old HBa.out hg (cells_drop_at HW.out hj)) cells_one (by unfold maxLen; omega) (by omega) HBa.out.size ?_; intro vb wb hownb hgrowb hnilb hlocb; have hbb := HBa.out.grown hgrowb HBa.out.size (fun k hk => (HOa.out.lt k hk).1); have k2b := (hbb.cell (p := ⟨rb, 2, none⟩) hrb).trans c2; have kfb := (hbb.frozen (p := ⟨rb, 2, none⟩) hrb).trans f2; have hrow2 := ins_row hj HIS.out rfl rfl hownb; obtain ⟨A', c', rfl, hc1, hc2, _, _⟩ := row_cells hrow2; have HOb := Lib.hid hrow2; have HBb := Lib.hid hbb; clear hrow2 hgrowb hnilb hlocb hownb hbb))
        go_ret
        obtain ⟨s1, s2⟩ := HR.out.store (Fr.of_below HBb.out) HOb.out hB
        exact ⟨rfl, ⟨_, s1⟩, s2⟩
      · obtain rfl : j = L.length := by omega
        have K3 := Lib.hid (show cellsOf (L.drop L.length) = [] by rw [List.drop_length]; rfl)
        have e3 : ¬ (L.length : Int) < (L.length : Int) := by omega
        by_cases hcj : c = L.length
        · subst hcj
          go_wp2_with (first
            | (at_builtin; refine wpList_append_own_at _ rfl _ _ 39 rfl w.heap.size 59 i0 _ 2 16 Try.underlying39 hi hz0 hz1 hz2 rfl (by omega) (.slice Av L.length cv) L.length (cellsOf (L.take L.length)) rfl (hrow.alloc _) ⟨wr.heap.size, 0, none⟩ 1 1 [.int .i64 id, .bool false] rfl rfl (World.news_of_block (heap_alloc_new wr _)) (by simp [Value.oneCell']) (by unfold maxLen; omega) (by omega) (by have := HB.out.size; simp; omega) ?_; intro va wa howna hgrowa hnila hloca; have hba := (HB.out.alloc HB.out.size _).grown hgrowa (by have := HB.out.size; simp; omega) (fun k hk => (hrow.lt k hk).1); have k2 := (hba.cell (p := ⟨rb, 2, none⟩) hrb).trans c2; have kf := (hba.frozen (p := ⟨rb, 2, none⟩) hrb).trans f2; have HOa := Lib.hid howna; have HBa := Lib.hid hba; clear hgrowa hnila hloca howna hba)
            | (at_builtin; refine wpList_append_own_at _ rfl _ _ 39 rfl w.heap.size 59 i0 _ 2 16 Try.underlying39 hi hz0 hz1 hz2 rfl (by omega) va (L.length + 1) (cellsOf (L.take L.length) ++ [.int .i64 id, .bool false]) rfl HOa.out ⟨g, 0, none⟩ 0 0 [] rfl rfl (fun i u hu => absurd hu (by simp)) (fun u hu => absurd hu (by simp)) (by unfold maxLen; omega) (by omega) HBa.out.size ?_; intro vb wb hownb hgrowb hnilb hlocb; have hbb := HBa.out.grown hgrowb HBa.out.size (fun k hk => (HOa.out.lt k hk).1); have k2b := (hbb.cell (p := ⟨rb, 2, none⟩) hrb).trans c2; have kfb := (hbb.frozen (p := ⟨rb, 2, none⟩) hrb).trans f2; have hrow2 := ins_row hj HIS.out (by omega) (by rw [K3.out]) hownb; obtain ⟨A', c', rfl, hc1, hc2, _, _⟩ := row_cells hrow2; have HOb := Lib.hid hrow2; have HBb := Lib.hid hbb; clear hrow2 hgrowb hnilb hlocb hownb hbb))
          go_ret
          obtain ⟨s1, s2⟩ := HR.out.store (Fr.of_below HBb.out) HOb.out hB
          exact ⟨rfl, ⟨_, s1⟩, s2⟩
        · have hcj2 : ¬ c ≤ L.length := by omega
          go_wp2_with (first
            | (at_builtin; refine wpList_append_own_at _ rfl _ _ 39 rfl w.heap.size 59 i0 _ 2 16 Try.underlying39 hi hz0 hz1 hz2 rfl (by omega) (.slice Av L.length cv) L.length (cellsOf (L.take L.length)) rfl (hrow.alloc _) ⟨wr.heap.size, 0, none⟩ 1 1 [.int .i64 id, .bool false] rfl rfl (World.news_of_block (heap_alloc_new wr _)) (by simp [Value.oneCell']) (by unfold maxLen; omega) (by omega) (by have := HB.out.size; simp; omega) ?_; intro va wa howna hgrowa hnila hloca; have hba := (HB.out.alloc HB.out.size _).grown hgrowa (by have := HB.out.size; simp; omega) (fun k hk => (hrow.lt k hk).1); have k2 := (hba.cell (p := ⟨rb, 2, none⟩) hrb).trans c2; have kf := (hba.frozen (p := ⟨rb, 2, none⟩) hrb).trans f2; have HOa := Lib.hid howna; have HBa := Lib.hid hba; clear hgrowa hnila hloca howna hba)
            | (at_builtin; refine wpList_append_own_at _ rfl _ _ 39 rfl w.heap.size 59 i0 _ 2 16 Try.underlying39 hi hz0 hz1 hz2 rfl (by omega) va (L.length + 1) (cellsOf (L.take L.length) ++ [.int .i64 id, .bool false]) rfl HOa.out ⟨g, L.length * 2, none⟩ 0 (c - L.length) [] rfl rfl (fun i u hu => absurd hu (by simp)) (fun u hu => absurd hu (by simp)) (by unfold maxLen; omega) (by omega) HBa.out.size ?_; intro vb wb hownb hgrowb hnilb hlocb; have hbb := HBa.out.grown hgrowb HBa.out.size (fun k hk => (HOa.out.lt k hk).1); have k2b := (hbb.cell (p := ⟨rb, 2, none⟩) hrb).trans c2; have kfb := (hbb.frozen (p := ⟨rb, 2, none⟩) hrb).trans f2; have hrow2 := ins_row hj HIS.out (by omega) (by rw [K3.out]) hownb; obtain ⟨A', c', rfl, hc1, hc2, _, _⟩ := row_cells hrow2; have HOb := Lib.hid hrow2; have HBb := Lib.hid hbb; clear hrow2 hgrowb hnilb hlocb hownb hbb))
          go_ret
          obtain ⟨s1, s2⟩ := HR.out.store (Fr.of_below HBb.out) HOb.out hB
          exact ⟨rfl, ⟨_, s1⟩, s2⟩
end Go.Proofs.Ytfmicncpaaioaaa.Sc
