/- The document's ledger lays so much by: a list made anew, at its place. Conditions: those that each theorem names. -/
import Derived.Deep.RegionHeld3
import Derived.Deep.DrawnRows
import Derived.Test.YtdgjhnamfgpgeaaRef
namespace Go.Proofs.Ytdgjhnamfgpgeaa.Led
open Go.RowKit Go.Maps
open Go.Proofs.Ytdgjhnamfgpgeaa.Ma
set_option linter.unusedVariables false
set_option linter.unusedSimpArgs false
section
variable {P : Program} (w : World)
/-- append at a step of a region that draws its order: nothing, too, may be appended. -/
theorem step_append_at {ops : Array Oper} {o : Oper} {a : Act} {K : Act → World → Prop} {Q : Exit → Act → World → Prop} {E : Prop} (hgd : o.guard = none) (s x : Operand) (t : TypeId)
    (ho : o.op = .call { callee := .builtin .append, args := #[s, x], argTypes := #[t, t] })
    (base : Nat) (e : TypeId) (i : TypeInfo) (z : Value) (size bytes : Nat) (ht : P.underlying t = some (.slice e)) (hi : P.info? e = some i) (hz : i.zero = some z)
    (hsize : i.size = size) (hby : i.bytes = bytes) (hzs : z.cells.size = size) (hsz : 0 < size)
    (v : Value) (n : Nat) (xs : List Value) (hs : a.eval s = v) (hown : w.ownsRow base e size v n xs)
    (ad : Addr) (m c : Nat) (news : List Value) (hx : a.eval x = .slice (some ad) m c) (hl : news.length = m * size) (hnews : ∀ j u, news[j]? = some u → w.cell? (ad.add j) = some u) (h1 : ∀ u ∈ news, u.oneCell' = true)
    (h63 : n + m ≤ maxLen) (hbytes : (n + m) * bytes ≤ 140737488355328) (hbase : base ≤ w.heap.size)
    (h : ∀ v' w', w'.ownsRow base e size v' (n + m) (xs ++ news) → w.grownBy w' v.ownBlock → (v' = .slice none 0 0 ↔ v = .slice none 0 0 ∧ m = 0) → (v'.ownBlock = v.ownBlock ∨ v'.ownBlock = some w.heap.size) → K (a.put o.dst v') w') :
    if Region.wanted o (yielded ops a.tmps) = true then Oper.wp P o a w K Q else E := by
  have hw : Region.wanted o (yielded ops a.tmps) = true := by simp [Region.wanted, hgd]
  rw [if_pos hw]
  obtain ⟨v', w', hr, h2, h3, h4, h5⟩ := run_append_own_at (P := P) w base t o.type e i z size bytes ht hi hz hsize hby hzs hsz v n xs hown ad m c news hl hnews h1 h63 hbytes hbase
  unfold Oper.wp execOp
  simp only [ho, resolve, invoke, builtin, Sem.run_bind, Sem.run_pure, Result.andThen_ok, List.map_toArray, List.map_cons, List.map_nil, hs, hx, hr]
  exact h v' w' h2 h3 h4 h5
/-- .. and nothing of nil. -/
theorem step_append_none {ops : Array Oper} {o : Oper} {a : Act} {K : Act → World → Prop} {Q : Exit → Act → World → Prop} {E : Prop} (hgd : o.guard = none) (s x : Operand) (t : TypeId)
    (ho : o.op = .call { callee := .builtin .append, args := #[s, x], argTypes := #[t, t] })
    (base : Nat) (e : TypeId) (i : TypeInfo) (size : Nat) (ht : P.underlying t = some (.slice e)) (hi : P.info? e = some i)
    (v : Value) (n : Nat) (xs : List Value) (hs : a.eval s = v) (hown : w.ownsRow base e size v n xs) (hx : a.eval x = .slice none 0 0) (hsz : i.size = size)
    (h : K (a.put o.dst v) w) : if Region.wanted o (yielded ops a.tmps) = true then Oper.wp P o a w K Q else E := by
  have hw : Region.wanted o (yielded ops a.tmps) = true := by simp [Region.wanted, hgd]
  rw [if_pos hw]
  have hr := run_append_owned_none (P := P) w base t o.type e i size ht hi v n xs hown
  unfold Oper.wp execOp
  simp only [ho, resolve, invoke, builtin, Sem.run_bind, Sem.run_pure, Result.andThen_ok, List.map_toArray, List.map_cons, List.map_nil, hs, hx, hr]
  exact h
end
theorem ins_split {k v : Int} {L : List Ent} : ∀ {j : Nat}, (∀ q ∈ L.take j, q.1 < k) → (∀ p, L[j]? = some p → k < p.1) → ins k v L = L.take j ++ (k, v) :: L.drop j := by
  induction L with
  | nil => intro j _ _; cases j <;> rfl
  | cons y r ih =>
    intro j h1 h2
    cases j with
    | zero =>
      have := h2 y rfl
      simp [ins, this]
    | succ j =>
      have hy : y.1 < k := h1 y (by simp)
      simp only [List.take_succ_cons, List.drop_succ_cons, List.cons_append]
      unfold ins
      rw [if_neg (by omega), ih (j := j) (fun q hq => h1 q (by simp [hq])) (fun p hp => h2 p (by simpa using hp))]
theorem rres_bad (B rb : Nat) (total id need : Int) (L : List Ent) (v : Value) (w : World) (h : RefAt B w rb total L v) (hok : Ok total L) (ht : total ≤ 18446744073709551615) (hn : U64 need) (hbad : (need = 0 ∨ 0 < Ma.look L id) ∨ total - sum L < need) :
    Calls Try.prog 13 #[.pointer (some ⟨rb, 0, none⟩), .int .i64 id, .int .u64 need] w fun e w' => e = .returned (.int .i64 (resF total L id need).1) ∧ (resF total L id need).2 = L ∧ w = w' := by
  have hheld := rheld_at B rb total id L v w h
  have hleft := rleft_at B rb total L v w h hok ht
  have p1 := look_le hok.pos id
  have p2 := hok.le
  by_cases h1 : need = 0 ∨ 0 < Ma.look L id
  · have : resF total L id need = (2, L) := resF_bad h1
    rw [this]
    have HH := Lib.hid hheld
    clear hheld hleft
    by_cases h2 : need = 0
    · subst h2
      clear h1 hbad this
      go_enter Try.func13, Try.ntmps13
      go_wp2
      go_ret
      exact ⟨rfl, trivial, rfl⟩
    · have h3 : 0 < Ma.look L id := by omega
      have e1 : (need == 0) = false := by simpa using h2
      clear h1 hbad this h2
      go_enter Try.func13, Try.ntmps13
      go_wp2_with (go_at_call 16; refine HH.out.mono ?_; rintro e w' ⟨rfl, rfl⟩)
      go_ret
      exact ⟨rfl, trivial, rfl⟩
  · have h2 : total - sum L < need := by omega
    have : resF total L id need = (230, L) := resF_full (by omega) (by omega) h2
    rw [this]
    have e1 : (need == 0) = false := by simpa using (show need ≠ 0 by omega)
    have e2 : ¬ 0 < Ma.look L id := by omega
    have HH := Lib.hid hheld
    have HL := Lib.hid hleft
    clear hheld hleft h1 hbad this
    go_enter Try.func13, Try.ntmps13
    go_wp2_with (first | (go_at_call 16; refine HH.out.mono ?_; rintro e w' ⟨rfl, rfl⟩) | (go_at_call 18; refine HL.out.mono ?_; rintro e w' ⟨rfl, rfl⟩))
    go_ret
    exact ⟨rfl, trivial, rfl⟩
theorem news_old {w W : World} {g o : Nat} {xs : List Value} (hb : Below w.heap.size w W) (hg : g < w.heap.size) (h : ∀ j u, xs[j]? = some u → w.cell? ⟨g, o + j, none⟩ = some u) :
    ∀ j u, xs[j]? = some u → W.cell? ((⟨g, o, none⟩ : Addr).add j) = some u := fun j u hu => by
  have e : (⟨g, o, none⟩ : Addr).add j = ⟨g, o + j, none⟩ := by
    unfold Addr.add
    split
    · rename_i e; subst e; rfl
    · rfl
  rw [e]
  exact (hb.cell (p := ⟨g, o + j, none⟩) hg).trans (h j u hu)
theorem take_cells {L : List Ent} {j : Nat} (hj : j ≤ L.length) : (cellsOf (L.take j)).length = j * 2 := by rw [cellsOf_length, List.length_take]; omega
theorem drop_cells {L : List Ent} {j : Nat} (hj : j ≤ L.length) : (cellsOf (L.drop j)).length = (L.length - j) * 2 := by rw [cellsOf_length, List.length_drop]
theorem cells_one {L : List Ent} : ∀ u ∈ cellsOf L, u.oneCell' = true := by
  intro u hu
  simp only [cellsOf, List.mem_flatMap] at hu
  obtain ⟨p, _, hp⟩ := hu
  simp at hp
  rcases hp with rfl | rfl <;> rfl
theorem cells_take_at {L : List Ent} {w : World} {g : Nat} (h : ∀ j u, (cellsOf L)[j]? = some u → w.cell? ⟨g, j, none⟩ = some u) (k : Nat) : ∀ j u, (cellsOf (L.take k))[j]? = some u → w.cell? ⟨g, 0 + j, none⟩ = some u := by
  intro j u hu
  rw [Nat.zero_add]
  refine h j u ?_
  have e : cellsOf L = cellsOf (L.take k) ++ cellsOf (L.drop k) := by rw [← cellsOf_append, List.take_append_drop]
  rw [e, List.getElem?_append_left (List.getElem?_eq_some_iff.1 hu).1]
  exact hu
theorem cells_drop_at {L : List Ent} {w : World} {g : Nat} (h : ∀ j u, (cellsOf L)[j]? = some u → w.cell? ⟨g, j, none⟩ = some u) {k : Nat} (hk : k ≤ L.length) : ∀ j u, (cellsOf (L.drop k))[j]? = some u → w.cell? ⟨g, k * 2 + j, none⟩ = some u := by
  intro j u hu
  refine h _ u ?_
  have e : cellsOf L = cellsOf (L.take k) ++ cellsOf (L.drop k) := by rw [← cellsOf_append, List.take_append_drop]
  rw [e, ← take_cells hk, List.getElem?_append_right (by omega), Nat.add_sub_cancel_left]
  exact hu
theorem row_all {B : Nat} {w : World} {L : List Ent} {g c : Nat} (h : w.ownsRow B 45 2 (.slice (some ⟨g, 0, none⟩) L.length c) L.length (cellsOf L)) : ∀ j u, (cellsOf L)[j]? = some u → w.cell? ⟨g, j, none⟩ = some u := by
  intro j u hu
  have hj := (List.getElem?_eq_some_iff.1 hu).1
  rw [cellsOf_length] at hj
  rw [World.ownsRow.cellAt h j hj, hu]
theorem below_grow {w W W' : World} {r : Option Nat} (h : Below w.heap.size w W) (hg : W.grownBy W' r) (hr : ∀ k, r = some k → w.heap.size ≤ k) : Below w.heap.size w W' :=
  h.grown hg h.size hr
set_option maxRecDepth 100000 in
set_option maxHeartbeats 4000000 in
theorem rres_some (B rb g c : Nat) (total id need : Int) (L : List Ent) (w : World) (h : RefAt B w rb total L (.slice (some ⟨g, 0, none⟩) L.length c)) (hB : B ≤ w.heap.size) (hok : Ok total L) (ht : total ≤ 18446744073709551615) (hn0 : need ≠ 0) (hlk : Ma.look L id ≤ 0) (hle : need ≤ total - sum L) (hlen : L.length ≤ 1000000) :
    Calls Try.prog 13 #[.pointer (some ⟨rb, 0, none⟩), .int .i64 id, .int .u64 need] w fun e w' => e = .returned (.int .i64 0) ∧ ∃ v', RefAt B w' rb total (ins id need L) v' ∧ Fr (fun k => k = rb) w w' := by
  have HH := Lib.hid (rheld_at B rb total id L _ w h)
  have HL := Lib.hid (rleft_at B rb total L _ w h hok ht)
  have p1 := look_le hok.pos id
  have e1 : (need == 0) = false := by simpa using hn0
  have HK := Lib.hid (look_pos hok.pos hlk)
  have HR := Lib.hid h
  have HO := Lib.hid hok
  obtain ⟨A, c', hAc, hc, hcm, _, hA⟩ := row_cells h.2
  cases hAc
  obtain ⟨g', eg, _, hg, _, hcell⟩ := hA _ rfl
  cases eg
  have HA := Lib.hid hcell
  have HW := Lib.hid (row_all h.2)
  have c1 := h.c1
  have f1 := h.f1
  have hrb := lt_of_heap h.1
  clear h hA hok hn0 hcell
  obtain ⟨i0, hi, hz0, hz1, hz2⟩ := info_parts info45
  go_enter Try.func13, Try.ntmps13
  go_wp2_with (first | (go_at_call 16; refine HH.out.mono ?_; rintro e w' ⟨rfl, rfl⟩) | (go_at_call 18; refine HL.out.mono ?_; rintro e w' ⟨rfl, rfl⟩))
  go_loop [7] (fun i => ∃ j : Nat, j ≤ L.length ∧ i = .int .i64 j ∧ ∀ q ∈ L.take j, q.1 < id) (fun i => L.length - (intOf i).toNat)
  case atStart => exact ⟨0, by omega, rfl, fun q hq => by simp at hq⟩
  case round =>
    obtain ⟨j, hj, rfl, hq⟩ := hrel
    have HQ := Lib.hid hq
    clear hq
    by_cases hgo : ∃ p, L[j]? = some p ∧ p.1 < id
    · obtain ⟨⟨x, y⟩, hx, he⟩ := hgo
      dsimp only at he
      have hlt : j < L.length := (List.getElem?_eq_some_iff.1 hx).1
      obtain ⟨d0, d1⟩ := HA.out j _ hx
      have HX := Lib.hid hx
      clear hx
      have e2 : decide (x < id) = true := by simpa using he
      go_wp2
      go_round
      case rel =>
        refine ⟨j + 1, by omega, by go_num, fun q hq => ?_⟩
        rw [List.take_add_one, HX.out] at hq
        simp only [Option.toList_some, List.mem_append, List.mem_singleton] at hq
        rcases hq with hq | rfl
        · exact HQ.out q hq
        · exact he
      case measure => simp [intOf]; omega
    · have hstop : ∀ p, L[j]? = some p → id < p.1 := by
        intro p hp
        have h1 : ¬ p.1 < id := fun e => hgo ⟨p, hp, e⟩
        have h2 := HK.out p (List.mem_of_getElem? hp)
        omega
      have HS := Lib.hid hstop
      clear hgo hstop
      have K1 := Lib.hid (take_cells hj)
      have K2 := Lib.hid (drop_cells hj)
      have b0 : (0 : Int) ≤ (j : Int) := by omega
      have b1 : (j : Int) ≤ (L.length : Int) := by omega
      have b2 : (j : Int) ≤ (c : Int) := by omega
      by_cases hlt : j < L.length
      · obtain ⟨⟨x, y⟩, hx⟩ : ∃ p, L[j]? = some p := ⟨L[j], List.getElem?_eq_getElem _⟩
        obtain ⟨d0, d1⟩ := HA.out j _ hx
        have he : id < x := HS.out _ hx
        have e2 : decide (x < id) = false := by simp; omega
        have hcj : ¬ c = j := by omega
        clear hx
        go_wp2
        go_region_held3 (fun w' => w'.cell? ⟨rb, 1, none⟩ = some (.slice (some ⟨g, 0, none⟩) L.length c))
          (first | go_keep | exact hgrowc.cell (by assumption) (fun e => by have := (hownb.lt rb e.symm).1; omega) | exact hgrowb.cell (by assumption) (fun e => by have := (howna.lt rb e.symm).1; omega) | exact hgrowa.cell (by assumption) (by simp [Value.ownBlock]))
          ((first
            | (refine step_append_at _ (by rfl) _ _ _ (by rfl) w.heap.size 45 i0 _ 2 16 Try.underlying41 hi hz0 hz1 hz2 rfl (by omega) (.slice none 0 0) 0 [] (by rfl) (World.ownsRow_nil _ _ _ _) ⟨g, 0, none⟩ j c (cellsOf (L.take j)) (by rfl) K1.out (news_old ((Below.refl w.heap.size w).drew) hg (cells_take_at HW.out j)) cells_one (by unfold maxLen; omega) (by omega) ((Below.refl w.heap.size w).drew).size ?_; intro va wa howna hgrowa hnila hloca; have hba := below_grow ((Below.refl w.heap.size w).drew) hgrowa (fun k hk => by simp [Value.ownBlock] at hk))
            | (refine step_append_at _ (by rfl) _ _ _ (by rfl) w.heap.size 45 i0 _ 2 16 Try.underlying41 hi hz0 hz1 hz2 rfl (by omega) (.slice none 0 0) 0 [] (by rfl) (World.ownsRow_nil _ _ _ _) ⟨g, 0, none⟩ j c (cellsOf (L.take j)) (by rfl) K1.out (news_old (((Below.refl w.heap.size w).drew).alloc (Nat.le_refl _) _) hg (cells_take_at HW.out j)) cells_one (by unfold maxLen; omega) (by omega) (((Below.refl w.heap.size w).drew).alloc (Nat.le_refl _) _).size ?_; intro va wa howna hgrowa hnila hloca; have hba := below_grow (((Below.refl w.heap.size w).drew).alloc (Nat.le_refl _) _) hgrowa (fun k hk => by simp [Value.ownBlock] at hk))
            | (refine step_append_at _ (by rfl) _ _ _ (by rfl) w.heap.size 45 i0 _ 2 16 Try.underlying41 hi hz0 hz1 hz2 rfl (by omega) (.slice none 0 0) 0 [] (by rfl) (World.ownsRow_nil _ _ _ _) ⟨g, 0, none⟩ j c (cellsOf (L.take j)) (by rfl) K1.out (news_old (((Below.refl w.heap.size w).alloc (Nat.le_refl _) _).drew) hg (cells_take_at HW.out j)) cells_one (by unfold maxLen; omega) (by omega) (((Below.refl w.heap.size w).alloc (Nat.le_refl _) _).drew).size ?_; intro va wa howna hgrowa hnila hloca; have hba := below_grow (((Below.refl w.heap.size w).alloc (Nat.le_refl _) _).drew) hgrowa (fun k hk => by simp [Value.ownBlock] at hk))
            | (refine step_append_at _ (by rfl) _ _ _ (by rfl) w.heap.size 45 i0 _ 2 16 Try.underlying41 hi hz0 hz1 hz2 rfl (by omega) va (0 + j) ([] ++ cellsOf (L.take j)) (by rfl) (howna.alloc _) ⟨wa.heap.size, 0, none⟩ 1 1 [.int .i64 id, .int .u64 need] (by rfl) (by rfl) (World.news_of_block (heap_alloc_new wa _)) (by simp [Value.oneCell']) (by unfold maxLen; omega) (by omega) (hba.alloc hba.size _).size ?_; intro vb wb hownb hgrowb hnilb hlocb; have hbb := below_grow (hba.alloc hba.size _) hgrowb (fun k hk => (howna.lt k hk).1))
            | (refine step_append_at _ (by rfl) _ _ _ (by rfl) w.heap.size 45 i0 _ 2 16 Try.underlying41 hi hz0 hz1 hz2 rfl (by omega) va (0 + j) ([] ++ cellsOf (L.take j)) (by rfl) howna ⟨w.heap.size, 0, none⟩ 1 1 [.int .i64 id, .int .u64 need] (by rfl) (by rfl) (World.news_of_block ((hgrowa.block _ (by simp) (by simp [Value.ownBlock])).trans (heap_alloc_new w _))) (by simp [Value.oneCell']) (by unfold maxLen; omega) (by omega) hba.size ?_; intro vb wb hownb hgrowb hnilb hlocb; have hbb := below_grow hba hgrowb (fun k hk => (howna.lt k hk).1))
            | (refine step_append_at _ (by rfl) _ _ _ (by rfl) w.heap.size 45 i0 _ 2 16 Try.underlying41 hi hz0 hz1 hz2 rfl (by omega) vb (0 + j + 1) (([] ++ cellsOf (L.take j)) ++ [.int .i64 id, .int .u64 need]) (by rfl) hownb ⟨g, j * 2, none⟩ (L.length - j) (c - j) (cellsOf (L.drop j)) (by rfl) K2.out (news_old hbb hg (cells_drop_at HW.out hj)) cells_one (by unfold maxLen; omega) (by omega) hbb.size ?_; intro vc wc hownc hgrowc hnilc hlocc; have hbc := below_grow hbb hgrowc (fun k hk => (hownb.lt k hk).1))))
        all_goals
          have hrow : wc.ownsRow w.heap.size 45 2 vc (ins id need L).length (cellsOf (ins id need L)) := by
            have e : ins id need L = L.take j ++ (id, need) :: L.drop j := ins_split HQ.out HS.out
            have e2 : cellsOf (ins id need L) = (([] ++ cellsOf (L.take j)) ++ [.int .i64 id, .int .u64 need]) ++ cellsOf (L.drop j) := by rw [e]; simp [cellsOf]
            have e3 : (ins id need L).length = 0 + j + 1 + (L.length - j) := by rw [length_ins]; omega
            rw [e2, e3]
            exact hownc
          have k1 := (hbc.cell (p := ⟨rb, 1, none⟩) hrb).trans c1
          have kf := (hbc.frozen (p := ⟨rb, 1, none⟩) hrb).trans f1
          have HB := Lib.hid (HR.out.store (Fr.of_below hbc) hrow hB)
          obtain ⟨A', c', rfl, _, _, _, _⟩ := row_cells hrow
          clear hownc hgrowc hnilc hlocc hownb hgrowb hnilb hlocb howna hgrowa hnila hloca hba hbb hbc hrow
          go_wp2
          go_ret
          exact ⟨rfl, _, HB.out⟩
      · have e3 : ¬ (j : Int) < (L.length : Int) := by omega
        have e4 : decide (j < L.length) = false := by simpa using hlt
        have K3 := Lib.hid (show cellsOf (L.drop j) = [] by rw [List.drop_of_length_le (by omega)]; rfl)
        by_cases hcj : c = j
        · have hcj2 := hcj.symm
          subst hcj2
          go_wp2
          go_region_held3 (fun w' => w'.cell? ⟨rb, 1, none⟩ = some (.slice (some ⟨g, 0, none⟩) L.length j))
            (first | go_keep | exact hgrowc.cell (by assumption) (fun e => by have := (hownb.lt rb e.symm).1; omega) | exact hgrowb.cell (by assumption) (fun e => by have := (howna.lt rb e.symm).1; omega) | exact hgrowa.cell (by assumption) (by simp [Value.ownBlock]))
            ((first
              | (refine step_append_at _ (by rfl) _ _ _ (by rfl) w.heap.size 45 i0 _ 2 16 Try.underlying41 hi hz0 hz1 hz2 rfl (by omega) (.slice none 0 0) 0 [] (by rfl) (World.ownsRow_nil _ _ _ _) ⟨g, 0, none⟩ j j (cellsOf (L.take j)) (by rfl) K1.out (news_old ((Below.refl w.heap.size w).drew) hg (cells_take_at HW.out j)) cells_one (by unfold maxLen; omega) (by omega) ((Below.refl w.heap.size w).drew).size ?_; intro va wa howna hgrowa hnila hloca; have hba := below_grow ((Below.refl w.heap.size w).drew) hgrowa (fun k hk => by simp [Value.ownBlock] at hk))
              | (refine step_append_at _ (by rfl) _ _ _ (by rfl) w.heap.size 45 i0 _ 2 16 Try.underlying41 hi hz0 hz1 hz2 rfl (by omega) (.slice none 0 0) 0 [] (by rfl) (World.ownsRow_nil _ _ _ _) ⟨g, 0, none⟩ j j (cellsOf (L.take j)) (by rfl) K1.out (news_old (((Below.refl w.heap.size w).drew).alloc (Nat.le_refl _) _) hg (cells_take_at HW.out j)) cells_one (by unfold maxLen; omega) (by omega) (((Below.refl w.heap.size w).drew).alloc (Nat.le_refl _) _).size ?_; intro va wa howna hgrowa hnila hloca; have hba := below_grow (((Below.refl w.heap.size w).drew).alloc (Nat.le_refl _) _) hgrowa (fun k hk => by simp [Value.ownBlock] at hk))
              | (refine step_append_at _ (by rfl) _ _ _ (by rfl) w.heap.size 45 i0 _ 2 16 Try.underlying41 hi hz0 hz1 hz2 rfl (by omega) (.slice none 0 0) 0 [] (by rfl) (World.ownsRow_nil _ _ _ _) ⟨g, 0, none⟩ j j (cellsOf (L.take j)) (by rfl) K1.out (news_old (((Below.refl w.heap.size w).alloc (Nat.le_refl _) _).drew) hg (cells_take_at HW.out j)) cells_one (by unfold maxLen; omega) (by omega) (((Below.refl w.heap.size w).alloc (Nat.le_refl _) _).drew).size ?_; intro va wa howna hgrowa hnila hloca; have hba := below_grow (((Below.refl w.heap.size w).alloc (Nat.le_refl _) _).drew) hgrowa (fun k hk => by simp [Value.ownBlock] at hk))
              | (refine step_append_at _ (by rfl) _ _ _ (by rfl) w.heap.size 45 i0 _ 2 16 Try.underlying41 hi hz0 hz1 hz2 rfl (by omega) va (0 + j) ([] ++ cellsOf (L.take j)) (by rfl) (howna.alloc _) ⟨wa.heap.size, 0, none⟩ 1 1 [.int .i64 id, .int .u64 need] (by rfl) (by rfl) (World.news_of_block (heap_alloc_new wa _)) (by simp [Value.oneCell']) (by unfold maxLen; omega) (by omega) (hba.alloc hba.size _).size ?_; intro vb wb hownb hgrowb hnilb hlocb; have hbb := below_grow (hba.alloc hba.size _) hgrowb (fun k hk => (howna.lt k hk).1))
              | (refine step_append_at _ (by rfl) _ _ _ (by rfl) w.heap.size 45 i0 _ 2 16 Try.underlying41 hi hz0 hz1 hz2 rfl (by omega) va (0 + j) ([] ++ cellsOf (L.take j)) (by rfl) howna ⟨w.heap.size, 0, none⟩ 1 1 [.int .i64 id, .int .u64 need] (by rfl) (by rfl) (World.news_of_block ((hgrowa.block _ (by simp) (by simp [Value.ownBlock])).trans (heap_alloc_new w _))) (by simp [Value.oneCell']) (by unfold maxLen; omega) (by omega) hba.size ?_; intro vb wb hownb hgrowb hnilb hlocb; have hbb := below_grow hba hgrowb (fun k hk => (howna.lt k hk).1))
              | (refine step_append_at _ (by rfl) _ _ _ (by rfl) w.heap.size 45 i0 _ 2 16 Try.underlying41 hi hz0 hz1 hz2 rfl (by omega) vb (0 + j + 1) (([] ++ cellsOf (L.take j)) ++ [.int .i64 id, .int .u64 need]) (by rfl) hownb ⟨g, 0, none⟩ 0 0 [] (by rfl) rfl (fun i u hu => absurd hu (by simp)) (fun u hu => absurd hu (by simp)) (by unfold maxLen; omega) (by omega) hbb.size ?_; intro vc wc hownc hgrowc hnilc hlocc; have hbc := below_grow hbb hgrowc (fun k hk => (hownb.lt k hk).1))))
          all_goals
            have hrow : wc.ownsRow w.heap.size 45 2 vc (ins id need L).length (cellsOf (ins id need L)) := by
              have e : ins id need L = L.take j ++ (id, need) :: L.drop j := ins_split HQ.out HS.out
              have e2 : cellsOf (ins id need L) = (([] ++ cellsOf (L.take j)) ++ [.int .i64 id, .int .u64 need]) ++ cellsOf (L.drop j) := by rw [e]; simp [cellsOf]
              have e3 : (ins id need L).length = 0 + j + 1 + (L.length - j) := by rw [length_ins]; omega
              rw [e2, e3]
              rw [K3.out, show L.length - j = 0 by omega]
              exact hownc
            have k1 := (hbc.cell (p := ⟨rb, 1, none⟩) hrb).trans c1
            have kf := (hbc.frozen (p := ⟨rb, 1, none⟩) hrb).trans f1
            have HB := Lib.hid (HR.out.store (Fr.of_below hbc) hrow hB)
            obtain ⟨A', c', rfl, _, _, _, _⟩ := row_cells hrow
            clear hownc hgrowc hnilc hlocc hownb hgrowb hnilb hlocb howna hgrowa hnila hloca hba hbb hbc hrow
            go_wp2
            go_ret
            exact ⟨rfl, _, HB.out⟩
        · go_wp2
          go_region_held3 (fun w' => w'.cell? ⟨rb, 1, none⟩ = some (.slice (some ⟨g, 0, none⟩) L.length c))
            (first | go_keep | exact hgrowc.cell (by assumption) (fun e => by have := (hownb.lt rb e.symm).1; omega) | exact hgrowb.cell (by assumption) (fun e => by have := (howna.lt rb e.symm).1; omega) | exact hgrowa.cell (by assumption) (by simp [Value.ownBlock]))
            ((first
              | (refine step_append_at _ (by rfl) _ _ _ (by rfl) w.heap.size 45 i0 _ 2 16 Try.underlying41 hi hz0 hz1 hz2 rfl (by omega) (.slice none 0 0) 0 [] (by rfl) (World.ownsRow_nil _ _ _ _) ⟨g, 0, none⟩ j c (cellsOf (L.take j)) (by rfl) K1.out (news_old ((Below.refl w.heap.size w).drew) hg (cells_take_at HW.out j)) cells_one (by unfold maxLen; omega) (by omega) ((Below.refl w.heap.size w).drew).size ?_; intro va wa howna hgrowa hnila hloca; have hba := below_grow ((Below.refl w.heap.size w).drew) hgrowa (fun k hk => by simp [Value.ownBlock] at hk))
              | (refine step_append_at _ (by rfl) _ _ _ (by rfl) w.heap.size 45 i0 _ 2 16 Try.underlying41 hi hz0 hz1 hz2 rfl (by omega) (.slice none 0 0) 0 [] (by rfl) (World.ownsRow_nil _ _ _ _) ⟨g, 0, none⟩ j c (cellsOf (L.take j)) (by rfl) K1.out (news_old (((Below.refl w.heap.size w).drew).alloc (Nat.le_refl _) _) hg (cells_take_at HW.out j)) cells_one (by unfold maxLen; omega) (by omega) (((Below.refl w.heap.size w).drew).alloc (Nat.le_refl _) _).size ?_; intro va wa howna hgrowa hnila hloca; have hba := below_grow (((Below.refl w.heap.size w).drew).alloc (Nat.le_refl _) _) hgrowa (fun k hk => by simp [Value.ownBlock] at hk))
              | (refine step_append_at _ (by rfl) _ _ _ (by rfl) w.heap.size 45 i0 _ 2 16 Try.underlying41 hi hz0 hz1 hz2 rfl (by omega) (.slice none 0 0) 0 [] (by rfl) (World.ownsRow_nil _ _ _ _) ⟨g, 0, none⟩ j c (cellsOf (L.take j)) (by rfl) K1.out (news_old (((Below.refl w.heap.size w).alloc (Nat.le_refl _) _).drew) hg (cells_take_at HW.out j)) cells_one (by unfold maxLen; omega) (by omega) (((Below.refl w.heap.size w).alloc (Nat.le_refl _) _).drew).size ?_; intro va wa howna hgrowa hnila hloca; have hba := below_grow (((Below.refl w.heap.size w).alloc (Nat.le_refl _) _).drew) hgrowa (fun k hk => by simp [Value.ownBlock] at hk))
              | (refine step_append_at _ (by rfl) _ _ _ (by rfl) w.heap.size 45 i0 _ 2 16 Try.underlying41 hi hz0 hz1 hz2 rfl (by omega) va (0 + j) ([] ++ cellsOf (L.take j)) (by rfl) (howna.alloc _) ⟨wa.heap.size, 0, none⟩ 1 1 [.int .i64 id, .int .u64 need] (by rfl) (by rfl) (World.news_of_block (heap_alloc_new wa _)) (by simp [Value.oneCell']) (by unfold maxLen; omega) (by omega) (hba.alloc hba.size _).size ?_; intro vb wb hownb hgrowb hnilb hlocb; have hbb := below_grow (hba.alloc hba.size _) hgrowb (fun k hk => (howna.lt k hk).1))
              | (refine step_append_at _ (by rfl) _ _ _ (by rfl) w.heap.size 45 i0 _ 2 16 Try.underlying41 hi hz0 hz1 hz2 rfl (by omega) va (0 + j) ([] ++ cellsOf (L.take j)) (by rfl) howna ⟨w.heap.size, 0, none⟩ 1 1 [.int .i64 id, .int .u64 need] (by rfl) (by rfl) (World.news_of_block ((hgrowa.block _ (by simp) (by simp [Value.ownBlock])).trans (heap_alloc_new w _))) (by simp [Value.oneCell']) (by unfold maxLen; omega) (by omega) hba.size ?_; intro vb wb hownb hgrowb hnilb hlocb; have hbb := below_grow hba hgrowb (fun k hk => (howna.lt k hk).1))
              | (refine step_append_at _ (by rfl) _ _ _ (by rfl) w.heap.size 45 i0 _ 2 16 Try.underlying41 hi hz0 hz1 hz2 rfl (by omega) vb (0 + j + 1) (([] ++ cellsOf (L.take j)) ++ [.int .i64 id, .int .u64 need]) (by rfl) hownb ⟨g, j * 2, none⟩ (L.length - j) (c - j) (cellsOf (L.drop j)) (by rfl) K2.out (news_old hbb hg (cells_drop_at HW.out hj)) cells_one (by unfold maxLen; omega) (by omega) hbb.size ?_; intro vc wc hownc hgrowc hnilc hlocc; have hbc := below_grow hbb hgrowc (fun k hk => (hownb.lt k hk).1))))
          all_goals
            have hrow : wc.ownsRow w.heap.size 45 2 vc (ins id need L).length (cellsOf (ins id need L)) := by
              have e : ins id need L = L.take j ++ (id, need) :: L.drop j := ins_split HQ.out HS.out
              have e2 : cellsOf (ins id need L) = (([] ++ cellsOf (L.take j)) ++ [.int .i64 id, .int .u64 need]) ++ cellsOf (L.drop j) := by rw [e]; simp [cellsOf]
              have e3 : (ins id need L).length = 0 + j + 1 + (L.length - j) := by rw [length_ins]; omega
              rw [e2, e3]
              exact hownc
            have k1 := (hbc.cell (p := ⟨rb, 1, none⟩) hrb).trans c1
            have kf := (hbc.frozen (p := ⟨rb, 1, none⟩) hrb).trans f1
            have HB := Lib.hid (HR.out.store (Fr.of_below hbc) hrow hB)
            obtain ⟨A', c', rfl, _, _, _, _⟩ := row_cells hrow
            clear hownc hgrowc hnilc hlocc hownb hgrowb hnilb hlocb howna hgrowa hnila hloca hba hbb hbc hrow
            go_wp2
            go_ret
            exact ⟨rfl, _, HB.out⟩
set_option maxRecDepth 100000 in
set_option maxHeartbeats 4000000 in
theorem rres_nil (B rb : Nat) (total id need : Int) (w : World) (h : RefAt B w rb total [] (.slice none 0 0)) (hB : B ≤ w.heap.size) (ht : total ≤ 18446744073709551615) (hn0 : need ≠ 0) (hle : need ≤ total) (h0 : 0 ≤ need) :
    Calls Try.prog 13 #[.pointer (some ⟨rb, 0, none⟩), .int .i64 id, .int .u64 need] w fun e w' => e = .returned (.int .i64 0) ∧ ∃ v', RefAt B w' rb total [(id, need)] v' ∧ Fr (fun k => k = rb) w w' := by
  have HH := Lib.hid (rheld_at B rb total id [] _ w h)
  have HL := Lib.hid (rleft_at B rb total [] _ w h (Ok.nil (by omega)) ht)
  have e1 : (need == 0) = false := by simpa using hn0
  have HR := Lib.hid h
  have c1 := h.c1
  have f1 := h.f1
  have hrb := lt_of_heap h.1
  have q1 : Ma.look [] id = 0 := rfl
  have q2 : total - sum [] = total := by simp [sum]
  rw [q1] at HH
  rw [q2] at HL
  clear h hn0 q1 q2
  obtain ⟨i0, hi, hz0, hz1, hz2⟩ := info_parts info45
  go_enter Try.func13, Try.ntmps13
  go_wp2_with (first | (go_at_call 16; refine HH.out.mono ?_; rintro e w' ⟨rfl, rfl⟩) | (go_at_call 18; refine HL.out.mono ?_; rintro e w' ⟨rfl, rfl⟩))
  go_loop [7] (fun i => i = .int .i64 0) (fun i => 0)
  case atStart => rfl
  case round =>
    subst hrel
    go_wp2
    go_region_held3 (fun w' => w'.cell? ⟨rb, 1, none⟩ = some (.slice none 0 0))
      (first | go_keep | exact hgrowb.cell (by assumption) (by simp [Value.ownBlock]))
      ((first
        | (refine step_append_none _ (by rfl) _ _ _ (by rfl) w.heap.size 45 i0 2 Try.underlying41 hi (.slice none 0 0) 0 [] (by rfl) (World.ownsRow_nil _ _ _ _) (by rfl) hz1 ?_)
        | (refine step_append_at _ (by rfl) _ _ _ (by rfl) w.heap.size 45 i0 _ 2 16 Try.underlying41 hi hz0 hz1 hz2 rfl (by omega) (.slice none 0 0) 0 [] (by rfl) (World.ownsRow_nil _ _ _ _) ⟨w.heap.size, 0, none⟩ 1 1 [.int .i64 id, .int .u64 need] (by rfl) (by rfl) (World.news_of_block (heap_alloc_new w _)) (by simp [Value.oneCell']) (by unfold maxLen; omega) (by omega) (by simp) ?_; intro vb wb hownb hgrowb hnilb hlocb)
        | (refine step_append_none _ (by rfl) _ _ _ (by rfl) w.heap.size 45 i0 2 Try.underlying41 hi vb (0 + 1) ([] ++ [.int .i64 id, .int .u64 need]) (by rfl) hownb (by rfl) hz1 ?_)))
    all_goals
      have hbb : Below w.heap.size w wb := below_grow (((Below.refl w.heap.size w).alloc (Nat.le_refl _) _).drew) hgrowb (by simp [Value.ownBlock])
      have hrow : wb.ownsRow w.heap.size 45 2 vb [(id, need)].length (cellsOf [(id, need)]) := hownb
      have k1 := (hbb.cell (p := ⟨rb, 1, none⟩) hrb).trans c1
      have kf := (hbb.frozen (p := ⟨rb, 1, none⟩) hrb).trans f1
      have HB := Lib.hid (HR.out.store (Fr.of_below hbb) hrow hB)
      obtain ⟨A', c', rfl, _, _, _, _⟩ := row_cells hrow
      clear hownb hgrowb hnilb hlocb hbb hrow
      go_wp2
      go_ret
      exact ⟨rfl, _, HB.out⟩
theorem rres_at (B rb : Nat) (total id need : Int) (L : List Ent) (v : Value) (w : World) (h : RefAt B w rb total L v) (hB : B ≤ w.heap.size) (hok : Ok total L) (ht : total ≤ 18446744073709551615) (hU : U64 need) (hlen : L.length ≤ 1000000) :
    Calls Try.prog 13 #[.pointer (some ⟨rb, 0, none⟩), .int .i64 id, .int .u64 need] w fun e w' => e = .returned (.int .i64 (resF total L id need).1) ∧ ∃ v', RefAt B w' rb total (resF total L id need).2 v' ∧ Fr (fun k => k = rb) w w' := by
  by_cases hbad : (need = 0 ∨ 0 < Ma.look L id) ∨ total - sum L < need
  · refine (rres_bad B rb total id need L v w h hok ht hU hbad).mono ?_
    rintro e w' ⟨rfl, hL, rfl⟩
    exact ⟨rfl, v, by rw [hL]; exact h, Fr.refl _ _⟩
  · have hn0 : need ≠ 0 := by omega
    have hlk : Ma.look L id ≤ 0 := by omega
    have hle : need ≤ total - sum L := by omega
    have e : resF total L id need = (0, ins id need L) := by
      rw [resF_yes hn0 hlk hle rfl, del_out (look_pos hok.pos hlk)]
    rw [e]
    rcases h.2.2 with ⟨rfl, hn⟩ | ⟨g, cap, cur, rfl, _⟩
    · obtain rfl : L = [] := List.length_eq_zero_iff.1 hn
      exact rres_nil B rb total id need w h hB ht hn0 (by simpa [sum] using hle) (by have := hU.1; omega)
    · exact rres_some B rb g cap total id need L w h hB hok ht hn0 hlk hle hlen
end Go.Proofs.Ytdgjhnamfgpgeaa.Led
