/- The document's scan takes whoever comes; it lets whoever is there go. Conditions: those that each theorem names. -/
import Derived.Deep.RegionLaw
import Derived.Deep.DrawnRows
import Derived.Test.YtfmicncpaaioaaaRefG
namespace Go.Proofs.Ytfmicncpaaioaaa.Sc
open Go.RowKit Go.Maps Go.Sort Go.Shelf
open Go.Proofs.Ytfmicncpaaioaaa.Ma
set_option linter.unusedVariables false
set_option linter.unusedSimpArgs false
theorem rattach_at (B rb : Nat) (n a id : Int) (L : List Ent) (v : Value) (w : World) (h : RefAt B w rb n a L v) (hB : B ≤ w.heap.size) (hr : Rising L) (hlen : L.length ≤ 4) :
    Calls Try.prog 12 #[.pointer (some ⟨rb, 0, none⟩), .int .i64 id] w fun e w' => e = .returned (.int .i64 (attF L id).1) ∧ ∃ v', RefAt B w' rb n a (attF L id).2 v' ∧ Fr (fun k => k = rb) w w' := by
  by_cases hbad : Ma.has L id = true ∨ L.length = 4
  · refine (rattach_bad B rb n a id L v w h hr hlen hbad).mono ?_
    rintro e w' ⟨rfl, hL, rfl⟩
    exact ⟨rfl, v, by rw [hL]; exact h, Fr.refl _ _⟩
  · have hh : Ma.has L id = false := by
      cases e : Ma.has L id
      · rfl
      · exact absurd (.inl e) hbad
    have h4 : L.length < 4 := by omega
    have e : attF L id = (0, ins id false L) := by
      have : ¬ L.length = 4 := by omega
      simp [attF, hh, this]
    rw [e]
    rcases h.2.2 with ⟨rfl, hn⟩ | ⟨g, cap, cur, rfl, _⟩
    · obtain rfl : L = [] := List.length_eq_zero_iff.1 hn
      exact rattach_nil B rb n a id w h hB
    · exact rattach_some B rb g cap n a id L w h hB hr h4 hh
section
variable {P : Program} (w : World)
/-- append at a step of a region that draws its order: nothing, too, may be appended. -/
theorem step_append_at {ops : Array Oper} {o : Oper} {a : Act} {K : Act → World → Prop} {Q : Exit → Act → World → Prop} {E : Prop} (hgd : o.guard = none) (s x : Operand) (t : TypeId)
    (ho : o.op = .call { callee := .builtin .append, args := #[s, x], argTypes := #[t, t] })
    (base : Nat) (e : TypeId) (i : TypeInfo) (z : Value) (size bytes : Nat) (ht : P.underlying t = some (.slice e)) (hi : P.info? e = some i) (hz : i.zero = some z)
    (hsize : i.size = size) (hby : i.bytes = bytes) (hzs : z.cells.size = size) (hsz : 0 < size)
    (v : Value) (n : Nat) (xs : List Value) (hs : a.eval s = v) (hown : w.ownsRow base e size v n xs)
    (ad : Addr) (m c : Nat) (news : List Value) (hx : a.eval x = .slice (some ad) m c) (hl : news.length = m * size) (hnews : ∀ j u, news[j]? = some u → w.cell? (ad.add j) = some u) (h1 : ∀ u ∈ news, u.oneCell' = true)
    (h63 : n + m ≤ maxLen) (hbytes : (n + m) * bytes ≤ 140737488355328) (hbase : base ≤ w.heap.size)
    (h : ∀ v' w', w'.ownsRow base e size v' (n + m) (xs ++ news) → w.grownBy w' v.ownBlock → (v' = .slice none 0 0 ↔ v = .slice none 0 0 ∧ m = 0) → (v'.ownBlock = v.ownBlock ∨ v'.ownBlock = some w.heap.size) → K (a.put o.dst v') w') :
    if Region.wanted o (yielded ops a.tmps) = true then Oper.wp P o a w K Q else E := by
  have hw : Region.wanted o (yielded ops a.tmps) = true := by simp [Region.wanted, hgd]
  rw [if_pos hw]
  obtain ⟨v', w', hr, h2, h3, h4, h5⟩ := run_append_own_at (P := P) w base t o.type e i z size bytes ht hi hz hsize hby hzs hsz v n xs hown ad m c news hl hnews h1 h63 hbytes hbase
  unfold Oper.wp execOp
  simp only [ho, resolve, invoke, builtin, Sem.run_bind, Sem.run_pure, Result.andThen_ok, List.map_toArray, List.map_cons, List.map_nil, hs, hx, hr]
  exact h v' w' h2 h3 h4 h5
end
theorem del_at {L : List Ent} (hr : Rising L) : ∀ {j : Nat} {p : Ent}, L[j]? = some p → del p.1 L = L.take j ++ L.drop (j + 1) := by
  induction L with
  | nil => intro j p h; simp at h
  | cons y r ih =>
    intro j p h
    have h' := List.pairwise_cons.1 hr
    cases j with
    | zero =>
      simp at h
      subst h
      have e2 : del y.1 (y :: r) = del y.1 r := by unfold del; rw [List.filter_cons, if_neg (by simp)]
      rw [e2, del_out (fun p hp => by have := h'.1 p hp; omega)]
      rfl
    | succ j =>
      have hp : r[j]? = some p := by simpa using h
      have := h'.1 p (List.mem_of_getElem? hp)
      have e2 : del p.1 (y :: r) = y :: del p.1 r := by unfold del; rw [List.filter_cons, if_pos (by simp; omega)]
      rw [e2, ih h'.2 hp]
      rfl
theorem del_row {w : World} {B : Nat} {v : Value} {id : Int} {L : List Ent} {j : Nat} (hj : j < L.length) (hi : del id L = L.take j ++ L.drop (j + 1)) {n : Nat} {xs : List Value} (hn : n = L.length - 1) (hx : xs = cellsOf (L.take j) ++ cellsOf (L.drop (j + 1))) (h : w.ownsRow B 59 2 v n xs) : w.ownsRow B 59 2 v (del id L).length (cellsOf (del id L)) := by
  have e2 : cellsOf (del id L) = xs := by rw [hi, hx, cellsOf_append]
  have e3 : (del id L).length = n := by rw [hi, List.length_append, List.length_take, List.length_drop]; omega
  rw [e2, e3]
  exact h
theorem below_grow {w W W' : World} {r : Option Nat} (h : Below w.heap.size w W) (hg : W.grownBy W' r) (hr : ∀ k, r = some k → w.heap.size ≤ k) : Below w.heap.size w W' :=
  h.grown hg h.size hr
theorem row_empty (w : World) (B : Nat) (hB : B ≤ w.heap.size) : (w.alloc (.cells #[] 59 (0, 0))).ownsRow B 59 2 (.slice (some ⟨w.heap.size, 0, none⟩) 0 0) 0 [] :=
  ⟨rfl, .inr ⟨_, 0, #[], rfl, hB, heap_alloc_new w _, by omega, by unfold maxLen; omega, rfl, rfl⟩⟩
set_option maxRecDepth 100000 in
set_option maxHeartbeats 2000000 in
theorem rdetach_some (B rb g c : Nat) (n a : Int) (j : Nat) (p : Ent) (L : List Ent) (w : World) (h : RefAt B w rb n a L (.slice (some ⟨g, 0, none⟩) L.length c)) (hB : B ≤ w.heap.size) (hr : Rising L) (hlen : L.length ≤ 4) (hp : L[j]? = some p) :
    Calls Try.prog 14 #[.pointer (some ⟨rb, 0, none⟩), .int .i64 p.1] w fun e w' => e = .returned (.int .i64 0) ∧ ∃ v', RefAt B w' rb n a (del p.1 L) v' ∧ Fr (fun k => k = rb) w w' := by
  have hplc := place_at B rb n a p.1 L _ w h
  have hjl := (List.getElem?_eq_some_iff.1 hp).1
  have hpl : plc L p.1 = j := plc_at hp rfl (fun q hq e => by
    obtain ⟨k, hk, e2⟩ := List.mem_take_iff_getElem.1 hq
    have := (List.pairwise_iff_getElem.1 hr) k j (by omega) hjl (by omega)
    rw [e2, (List.getElem?_eq_some_iff.1 hp).2] at this
    omega)
  rw [hpl] at hplc
  have HP := Lib.hid hplc
  have HR := Lib.hid h
  have HD := Lib.hid (del_at hr hp)
  obtain ⟨A, c', hAc, hc, hcm, _, hA⟩ := row_cells h.2
  cases hAc
  obtain ⟨g', eg, _, hg, _, hcell⟩ := hA _ rfl
  cases eg
  have HW := Lib.hid (row_all h.2)
  have c2 := h.c2
  have f2 := h.f2
  have hrb := lt_of_heap h.1
  have K1 := Lib.hid (take_cells (L := L) (j := j) (by omega))
  have K2 := Lib.hid (drop_cells (L := L) (j := j + 1) hjl)
  obtain ⟨m, hm⟩ : ∃ m : Nat, m = j + 1 := ⟨_, rfl⟩
  have hw1 : IntKind.i64.wrap ((j : Int) + 1) = (m : Int) := by rw [IntWalk.i64_in _ ⟨by omega, by omega⟩]; omega
  have HM := Lib.hid hm
  have b1 : (0 : Int) ≤ (j : Int) := by omega
  have b2 : (j : Int) ≤ (c : Int) := by omega
  have b3 : (m : Int) ≤ (L.length : Int) := by omega
  have b4 : (L.length : Int) ≤ (c : Int) := by omega
  have b5 : (m : Int) ≤ (c : Int) := by omega
  have b6 : (0 : Int) ≤ (m : Int) := by omega
  rw [← hm] at K2
  clear h hplc hpl hA hcell hp hm
  obtain ⟨i0, hi, hz0, hz1, hz2⟩ := info_parts info59
  go_enter Try.func14, Try.ntmps14
  go_wp2_with (go_at_call 25; refine HP.out.mono ?_; rintro e w' ⟨rfl, rfl⟩)
  by_cases hcj : c = m
  · have K3 := Lib.hid (show cellsOf (L.drop (j + 1)) = [] by rw [List.drop_of_length_le (by have := HM.out; omega)]; rfl)
    subst hcj
    go_region_law ((first
        | (refine step_append_at _ (by rfl) _ _ _ (by rfl) w.heap.size 59 i0 _ 2 16 Try.underlying39 hi hz0 hz1 hz2 rfl (by omega) (.slice (some ⟨w.heap.size, 0, none⟩) 0 0) 0 [] (by rfl) (row_empty w _ (Nat.le_refl _)) ⟨g, 0, none⟩ j c (cellsOf (L.take j)) (by rfl) K1.out (news_old (((Below.refl w.heap.size w).alloc (Nat.le_refl _) _).drew) hg (cells_take_at HW.out j)) cells_one (by unfold maxLen; omega) (by omega) (((Below.refl w.heap.size w).alloc (Nat.le_refl _) _).drew).size ?_; intro va wa howna hgrowa hnila hloca; have hba := below_grow (((Below.refl w.heap.size w).alloc (Nat.le_refl _) _).drew) hgrowa (fun k hk => by simp [Value.ownBlock] at hk; omega); have k2a := (hba.cell (p := ⟨rb, 2, none⟩) hrb).trans c2)
        | (refine step_append_at _ (by rfl) _ _ _ (by rfl) w.heap.size 59 i0 _ 2 16 Try.underlying39 hi hz0 hz1 hz2 rfl (by omega) va (0 + j) ([] ++ cellsOf (L.take j)) (by rfl) howna ⟨g, 0, none⟩ 0 0 [] (by rfl) rfl (fun i u hu => absurd hu (by simp)) (fun u hu => absurd hu (by simp)) (by unfold maxLen; omega) (by omega) hba.size ?_; intro vb wb hownb hgrowb hnilb hlocb; have hbb := below_grow hba hgrowb (fun k hk => (howna.lt k hk).1); have k2 := (hbb.cell (p := ⟨rb, 2, none⟩) hrb).trans c2; have kf := (hbb.frozen (p := ⟨rb, 2, none⟩) hrb).trans f2; have hrow := del_row hjl HD.out (by have := HM.out; omega) (by rw [K3.out]; simp) hownb; obtain ⟨A', c', rfl, _, _, _, _⟩ := row_cells hrow)))
    all_goals
      have HB := Lib.hid (HR.out.store (Fr.of_below hbb) hrow hB)
      clear hownb hgrowb hnilb hlocb howna hgrowa hnila hloca hba hbb hrow
      go_wp2
      go_ret
      exact ⟨rfl, _, HB.out⟩
  · have hdr := Lib.hid (cells_drop_at HW.out hjl)
    rw [show (j.succ) = m from HM.out.symm] at hdr
    go_region_law ((first
        | (refine step_append_at _ (by rfl) _ _ _ (by rfl) w.heap.size 59 i0 _ 2 16 Try.underlying39 hi hz0 hz1 hz2 rfl (by omega) (.slice (some ⟨w.heap.size, 0, none⟩) 0 0) 0 [] (by rfl) (row_empty w _ (Nat.le_refl _)) ⟨g, 0, none⟩ j c (cellsOf (L.take j)) (by rfl) K1.out (news_old (((Below.refl w.heap.size w).alloc (Nat.le_refl _) _).drew) hg (cells_take_at HW.out j)) cells_one (by unfold maxLen; omega) (by omega) (((Below.refl w.heap.size w).alloc (Nat.le_refl _) _).drew).size ?_; intro va wa howna hgrowa hnila hloca; have hba := below_grow (((Below.refl w.heap.size w).alloc (Nat.le_refl _) _).drew) hgrowa (fun k hk => by simp [Value.ownBlock] at hk; omega); have k2a := (hba.cell (p := ⟨rb, 2, none⟩) hrb).trans c2)
        | (refine step_append_at _ (by rfl) _ _ _ (by rfl) w.heap.size 59 i0 _ 2 16 Try.underlying39 hi hz0 hz1 hz2 rfl (by omega) va (0 + j) ([] ++ cellsOf (L.take j)) (by rfl) howna ⟨g, m * 2, none⟩ (L.length - m) (c - m) (cellsOf (L.drop m)) (by rfl) K2.out (news_old hba hg hdr.out) cells_one (by unfold maxLen; omega) (by omega) hba.size ?_; intro vb wb hownb hgrowb hnilb hlocb; have hbb := below_grow hba hgrowb (fun k hk => (howna.lt k hk).1); have k2 := (hbb.cell (p := ⟨rb, 2, none⟩) hrb).trans c2; have kf := (hbb.frozen (p := ⟨rb, 2, none⟩) hrb).trans f2; have hrow := del_row hjl HD.out (by have := HM.out; omega) (by rw [← HM.out]; simp) hownb; obtain ⟨A', c', rfl, _, _, _, _⟩ := row_cells hrow)))
    all_goals
      have HB := Lib.hid (HR.out.store (Fr.of_below hbb) hrow hB)
      clear hownb hgrowb hnilb hlocb howna hgrowa hnila hloca hba hbb hrow
      go_wp2
      go_ret
      exact ⟨rfl, _, HB.out⟩
theorem rdetach_at (B rb : Nat) (n a id : Int) (L : List Ent) (v : Value) (w : World) (h : RefAt B w rb n a L v) (hB : B ≤ w.heap.size) (hr : Rising L) (hlen : L.length ≤ 4) :
    Calls Try.prog 14 #[.pointer (some ⟨rb, 0, none⟩), .int .i64 id] w fun e w' => e = .returned (.int .i64 (detF L id).1) ∧ ∃ v', RefAt B w' rb n a (detF L id).2 v' ∧ Fr (fun k => k = rb) w w' := by
  cases hh : Ma.has L id
  · have hplc := place_at B rb n a id L v w h
    rw [show plc L id = -1 by simp [plc, hh]] at hplc
    rw [show detF L id = (4, L) by simp [detF, hh]]
    have HP := Lib.hid hplc
    have HR := Lib.hid h
    clear h hh hplc
    go_enter Try.func14, Try.ntmps14
    go_wp2_with (go_at_call 25; refine HP.out.mono ?_; rintro e w' ⟨rfl, rfl⟩)
    go_ret
    exact ⟨rfl, v, HR.out, Fr.refl _ _⟩
  · rw [show detF L id = (0, del id L) by simp [detF, hh]]
    obtain ⟨j, y, hj, _, _⟩ := has_place hr hh
    rcases h.2.2 with ⟨rfl, hn⟩ | ⟨g, cap, cur, rfl, _⟩
    · obtain rfl : L = [] := List.length_eq_zero_iff.1 hn
      simp at hj
    · exact rdetach_some B rb g cap n a j (id, y) L w h hB hr hlen hj
end Go.Proofs.Ytfmicncpaaioaaa.Sc
