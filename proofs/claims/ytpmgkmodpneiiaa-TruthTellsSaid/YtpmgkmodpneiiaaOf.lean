/- of: the graph of edges. Conditions: those that each theorem names. -/
import Derived.Test.YtpmgkmodpneiiaaGrd
import Derived.Test.YtpmgkmodpneiiaaRnk
import Derived.Lib.OwnKind
namespace Go.Proofs.Ytpmgkmodpneiiaa.E
open Go.RowKit Go.Sort Go.Shelf
open Go.Proofs.Ytpmgkmodpneiiaa.Ma
set_option linter.unusedVariables false
set_option linter.unusedSimpArgs false
theorem Grid.ge {B : Nat} {w : World} {p : Nat} {V : List Value} {R : List (List Int)} (h : Grid B w p V R) {k : Nat} (hk : Grid.has p V k) : B ≤ k := by
  rcases hk with rfl | ⟨v, hv, hg⟩
  · exact h.at_
  · obtain ⟨i, hi, rfl⟩ := List.mem_iff_getElem.1 hv
    obtain ⟨r, hr⟩ : ∃ r, R[i]? = some r := ⟨_, List.getElem?_eq_getElem (by rw [← h.len]; exact hi)⟩
    exact (h.rows i _ r (List.getElem?_eq_getElem hi) hr).lt k hg |>.1
theorem Grid.base {B B' : Nat} {w : World} {p : Nat} {V : List Value} {R : List (List Int)} (h : Grid B w p V R) (hB : B' ≤ B) : Grid B' w p V R :=
  ⟨h.blk, h.len, fun i v r hv hr => row_base (h.rows i v r hv hr) hB, h.apart, Nat.le_trans hB h.at_⟩
theorem info54 : (Try.prog.info? 54).map (fun i => (i.zero, i.size, i.bytes)) = some (some (.slice none 0 0), 1, 24) := by kernel_rfl
def nils (N : Nat) : Obj := .cells (List.replicate N (Value.slice none 0 0)).toArray 54 (0, 0)
theorem make_r (N : Nat) (h : N ≤ 1000) (w : World) : (Instr.makeSlice 64 (.int .i64 (N : Int)) (.int .i64 (N : Int))).run Try.prog w = .ok (.slice (some ⟨w.heap.size, 0, none⟩) N N) (w.alloc (nils N)) := by
  obtain ⟨i0, hi, hz0, hz1, hz2⟩ := info_parts info54
  have hr := run_makeSlice (P := Try.prog) w 64 54 i0 _ Try.underlying64 hi hz0 .i64 .i64 (N : Int) (N : Int) (by omega) (by omega) (by rw [hz1]; omega) (by rw [hz2]; omega) (by omega)
  rw [hr]
  have e : madeCells (Value.slice none 0 0).cells ((N : Int).toNat * i0.size) = (List.replicate N (Value.slice none 0 0)).toArray := by
    apply Array.ext'
    rw [show (Value.slice none 0 0).cells = #[Value.slice none 0 0] from rfl, toList_madeCells_one, hz1]
    simp
  rw [e]
  simp [nils]
theorem grid_new {B : Nat} {w : World} {p N : Nat} (h : w.heap[p]? = some (nils N)) (hB : B ≤ p) : Grid B w p (List.replicate N (Value.slice none 0 0)) (List.replicate N []) := by
  refine ⟨h, by simp, fun i v r hv hr => ?_, fun i j v u g _ hv _ hg => ?_, hB⟩
  · obtain ⟨_, rfl⟩ := List.mem_replicate.1 (List.mem_of_getElem? hv)
    obtain ⟨_, rfl⟩ := List.mem_replicate.1 (List.mem_of_getElem? hr)
    exact World.ownsRow_nil _ _ _ _
  · obtain ⟨_, rfl⟩ := List.mem_replicate.1 (List.mem_of_getElem? hv)
    cases hg
theorem addAt_short {R : List (List Int)} {i b : Nat} {x : Int} (h : ∀ r ∈ R, r.length ≤ b) : ∀ r ∈ addAt R i x, r.length ≤ b + 1 := by
  intro r hr
  unfold addAt at hr
  rcases List.mem_or_eq_of_mem_set hr with h1 | rfl
  · exact Nat.le_succ_of_le (h r h1)
  · rw [List.length_append]
    by_cases hi : i < R.length
    · have : R.getD i [] = R[i] := by simp [List.getD, hi]
      rw [this]
      have := h R[i] (List.getElem_mem hi)
      simp
      exact this
    · have : R.getD i [] = [] := by simp [List.getD, List.getElem?_eq_none (Nat.le_of_not_lt hi)]
      rw [this]
      simp
theorem out_short (n : Nat) (L : List Ed) : ∀ r ∈ ofOut n L, r.length ≤ L.length := by
  have : ∀ (L : List Ed) (R : List (List Int)) (b : Nat), (∀ r ∈ R, r.length ≤ b) → ∀ r ∈ L.foldl (fun R e => addAt R e.1.toNat e.2) R, r.length ≤ b + L.length := by
    intro L
    induction L with
    | nil => intro R b h; exact h
    | cons e l ih =>
      intro R b h r hr
      rw [List.foldl_cons] at hr
      have := ih _ (b + 1) (addAt_short h) r hr
      rw [List.length_cons]
      omega
  intro r hr
  have := this L (List.replicate n []) 0 (fun r hr => by obtain ⟨_, rfl⟩ := List.mem_replicate.1 hr; simp) r hr
  omega
theorem all_short (n : Nat) (L : List Ed) : ∀ r ∈ ofAll n L, r.length ≤ 2 * L.length := by
  have : ∀ (L : List Ed) (R : List (List Int)) (b : Nat), (∀ r ∈ R, r.length ≤ b) → ∀ r ∈ L.foldl (fun R e => addAt (addAt R e.1.toNat e.2) e.2.toNat e.1) R, r.length ≤ b + 2 * L.length := by
    intro L
    induction L with
    | nil => intro R b h; exact h
    | cons e l ih =>
      intro R b h r hr
      rw [List.foldl_cons] at hr
      have := ih _ (b + 1 + 1) (addAt_short (addAt_short h)) r hr
      rw [List.length_cons]
      omega
  intro r hr
  have := this L (List.replicate n []) 0 (fun r hr => by obtain ⟨_, rfl⟩ := List.mem_replicate.1 hr; simp) r hr
  omega
theorem out_len (n : Nat) (L : List Ed) : (ofOut n L).length = n := by
  have : ∀ (L : List Ed) (R : List (List Int)), (L.foldl (fun R e => addAt R e.1.toNat e.2) R).length = R.length := by
    intro L
    induction L with
    | nil => intro R; rfl
    | cons e l ih => intro R; rw [List.foldl_cons, ih, addAt_len]
  unfold ofOut
  rw [this, List.length_replicate]
theorem all_len (n : Nat) (L : List Ed) : (ofAll n L).length = n := by
  have : ∀ (L : List Ed) (R : List (List Int)), (L.foldl (fun R e => addAt (addAt R e.1.toNat e.2) e.2.toNat e.1) R).length = R.length := by
    intro L
    induction L with
    | nil => intro R; rfl
    | cons e l ih => intro R; rw [List.foldl_cons, ih, addAt_len, addAt_len]
  unfold ofAll
  rw [this, List.length_replicate]
theorem info3 : (Try.prog.info? 3).map (fun i => (i.zero, i.size, i.bytes)) = some (some (.int .i64 0), 1, 8) := by kernel_rfl
theorem out_take {n k : Nat} {L : List Ed} {e : Ed} (h : L[k]? = some e) : ofOut n (L.take (k + 1)) = addAt (ofOut n (L.take k)) e.1.toNat e.2 := by
  unfold ofOut
  rw [List.take_add_one, h, List.foldl_append]
  rfl
theorem all_take {n k : Nat} {L : List Ed} {e : Ed} (h : L[k]? = some e) : ofAll n (L.take (k + 1)) = addAt (addAt (ofAll n (L.take k)) e.1.toNat e.2) e.2.toNat e.1 := by
  unfold ofAll
  rw [List.take_add_one, h, List.foldl_append]
  rfl
section
variable {P : Program}
theorem step_append_at {ops : Array Oper} {o : Oper} {a : Act} {K : Act → World → Prop} {Q : Exit → Act → World → Prop} {E : Prop} (w : World) (hgd : o.guard = none) (s x : Operand) (t : TypeId)
    (ho : o.op = .call { callee := .builtin .append, args := #[s, x], argTypes := #[t, t] })
    (base : Nat) (e : TypeId) (i : TypeInfo) (z : Value) (size bytes : Nat) (ht : P.underlying t = some (.slice e)) (hi : P.info? e = some i) (hz : i.zero = some z)
    (hsize : i.size = size) (hby : i.bytes = bytes) (hzs : z.cells.size = size) (hsz : 0 < size)
    (v : Value) (n : Nat) (xs : List Value) (hs : a.eval s = v) (hown : w.ownsRow base e size v n xs)
    (ad : Addr) (m c : Nat) (news : List Value) (hx : a.eval x = .slice (some ad) m c) (hl : news.length = m * size) (hnews : ∀ j u, news[j]? = some u → w.cell? (ad.add j) = some u) (h1 : ∀ u ∈ news, u.oneCell' = true)
    (h63 : n + m ≤ maxLen) (hbytes : (n + m) * bytes ≤ 140737488355328) (hbase : base ≤ w.heap.size)
    (h : ∀ v' w', w'.ownsRow base e size v' (n + m) (xs ++ news) → w.grownBy w' v.ownBlock → (v' = .slice none 0 0 ↔ v = .slice none 0 0 ∧ m = 0) → (v'.ownBlock = v.ownBlock ∨ v'.ownBlock = some w.heap.size) → K (a.put o.dst v') w') :
    if Region.wanted o (yielded ops a.tmps) = true then Oper.wp P o a w K Q else E := by
  have hw : Region.wanted o (yielded ops a.tmps) = true := by simp [Region.wanted, hgd]
  rw [if_pos hw]
  obtain ⟨v', w', hr, h2, h3, h4, h5⟩ := run_append_own_at (P := P) w base t o.type e i z size bytes ht hi hz hsize hby hzs hsz v n xs hown ad m c news hl hnews h1 h63 hbytes hbase
  unfold Oper.wp execOp
  simp only [ho, resolve, invoke, builtin, Sem.run_bind, Sem.run_pure, Result.andThen_ok, List.map_toArray, List.map_cons, List.map_nil, hs, hx, hr]
  exact h v' w' h2 h3 h4 h5
end
/-- A row of the grid's is longer by one. -/
def Pushed (B : Nat) (w1 wx : World) (p : Nat) (V : List Value) (R : List (List Int)) (i : Nat) (x : Int) : Prop :=
  ∃ V', Grid B wx p V' (addAt R i x) ∧ (∀ j, Grid.has p V' j → Grid.has p V j ∨ w1.heap.size ≤ j) ∧ Fr (fun j => Grid.has p V j) w1 wx
theorem pushed {B p i : Nat} {w1 wb : World} {V : List Value} {R : List (List Int)} {v0 vb : Value} {r : List Int} {x : Int} (h : Grid B w1 p V R) (hv : V[i]? = some v0) (hr : R[i]? = some r) (hf : Fr (fun k => v0.ownBlock = some k) w1 wb)
    (hrow : wb.ownsRow B 3 1 vb (r.length + 1) (cellsK encI r ++ [.int .i64 x])) (hloc : ∀ g, vb.ownBlock = some g → v0.ownBlock = some g ∨ w1.heap.size ≤ g) : Pushed B w1 (wb.setCell ⟨p, i, none⟩ vb) p V R i x := by
  have hrow2 : wb.ownsRow B 3 1 vb (r ++ [x]).length (cellsK encI (r ++ [x])) := by
    rw [cellsK_append, cellsK_one, List.length_append]
    exact hrow
  obtain ⟨h1, h2⟩ := h.push hv hr hf hrow2 hloc
  have e : addAt R i x = R.set i (r ++ [x]) := by
    unfold addAt
    rw [List.getD_eq_getElem?_getD, hr]
    rfl
  refine ⟨V.set i vb, e ▸ h1, fun j hj => ?_, h2⟩
  rcases hj with e | ⟨v, hv2, hg⟩
  · exact .inl (.inl e)
  · rcases List.mem_or_eq_of_mem_set hv2 with h3 | rfl
    · exact .inl (.inr ⟨v, h3, hg⟩)
    · rcases hloc j hg with h4 | h4
      · exact .inl (.inr ⟨v0, List.mem_of_getElem? hv, h4⟩)
      · exact .inr h4
theorem loc_of {vb v0 : Value} {m h : Nat} (k : vb.ownBlock = v0.ownBlock ∨ vb.ownBlock = some m) (hm : h ≤ m) : ∀ g, vb.ownBlock = some g → v0.ownBlock = some g ∨ h ≤ g := fun g hg => by
  rcases k with e | e
  · exact .inl (e ▸ hg)
  · rw [hg] at e
    cases e
    exact .inr hm
theorem Grid.other {B p b : Nat} {w : World} {V : List Value} {R : List (List Int)} {cs : Array Value} {T : TypeId} {fz : Nat × Nat} (h : Grid B w p V R) (hb : w.heap[b]? = some (.cells cs T fz)) (h1 : T ≠ 54) (h2 : T ≠ 3) : ¬ Grid.has p V b := by
  rintro (rfl | ⟨v, hv, hg⟩)
  · rw [h.blk] at hb
    injection hb with e
    injection e with _ e2
    exact h1 e2.symm
  · obtain ⟨i, hi, rfl⟩ := List.mem_iff_getElem.1 hv
    obtain ⟨r, hr⟩ : ∃ r, R[i]? = some r := ⟨_, List.getElem?_eq_getElem (by rw [← h.len]; exact hi)⟩
    obtain ⟨c, f, hk⟩ := Go.Lib.ownsRow_kind (h.rows i _ r (List.getElem?_eq_getElem hi) hr) b hg
    rw [hk] at hb
    injection hb with e
    injection e with _ e2
    exact h2 e2.symm
set_option maxRecDepth 100000 in
set_option maxHeartbeats 4000000 in
theorem of_at (A : Option Addr) (c n : Nat) (L : List Ed) (w : World) (hL : Lies enc2 2 w A L) (hlen : L.length ≤ 100000) (hn : n ≤ 256) (hin : ∀ e ∈ L, 0 ≤ e.1 ∧ e.1 < n ∧ 0 ≤ e.2 ∧ e.2 < n) :
    Calls Try.prog 30 #[.int .i64 (n : Int), .slice A L.length c] w fun e w' => ∃ p q V U, e = .returned (.agg #[.int .i64 (n : Int), .slice (some ⟨p, 0, none⟩) n n, .slice (some ⟨q, 0, none⟩) n n]) ∧ Grid w.heap.size w' p V (ofOut n L) ∧ Grid w.heap.size w' q U (ofAll n L) ∧ Below w.heap.size w w' := by
  have HL := Lib.hid hL
  have HIN := Lib.hid hin
  have hmk := make_r n (by omega)
  clear hL hin
  go_enter Try.func30, Try.ntmps30
  go_wp2
  obtain ⟨W, hW, gW, hbl, hsz⟩ := box_new w (.cells #[.int .i64 0, .slice none 0 0, .slice none 0 0] 66 (0, 0))
  rw [hW]
  have HGW := Lib.hid gW
  have HBW := Lib.hid hbl
  have HSW := Lib.hid hsz
  clear hW gW hbl hsz
  go_cut [5] from 8 to 66 (fun s wx => ∃ p q bx, s = .pointer (some ⟨bx, 0, none⟩) ∧ wx.heap[bx]? = some (.cells #[.int .i64 (n : Int), .slice (some ⟨p, 0, none⟩) n n, .slice (some ⟨q, 0, none⟩) n n] 66 (0, 0)) ∧ wx.heap[p]? = some (nils n) ∧ wx.heap[q]? = some (nils n) ∧ p ≠ q ∧ W.heap.size ≤ p ∧ W.heap.size ≤ q ∧ W.heap.size ≤ bx ∧ Below W.heap.size W wx)
  case first =>
    go_region
    all_goals
      go_wp2
      go_meet
      first
        | (obtain ⟨W3, e3, f0, f1, f2, fs, fb⟩ := alloc3 W (nils n) (nils n) (.cells #[.int .i64 (n : Int), .slice (some ⟨W.heap.size, 0, none⟩) n n, .slice (some ⟨W.heap.size + 1, 0, none⟩) n n] 66 (0, 0)); rw [e3]; exact ⟨W.heap.size, W.heap.size + 1, W.heap.size + 1 + 1, rfl, f2, f0, f1, by omega, by omega, by omega, by omega, fb.drew⟩)
        | (obtain ⟨W3, e3, f0, f1, f2, fs, fb⟩ := alloc3 W (nils n) (.cells #[.int .i64 (n : Int), .slice (some ⟨W.heap.size, 0, none⟩) n n, .slice (some ⟨W.heap.size + 1 + 1, 0, none⟩) n n] 66 (0, 0)) (nils n); rw [e3]; exact ⟨W.heap.size, W.heap.size + 1 + 1, W.heap.size + 1, rfl, f1, f0, f2, by omega, by omega, by omega, by omega, fb.drew⟩)
        | (obtain ⟨W3, e3, f0, f1, f2, fs, fb⟩ := alloc3 W (nils n) (nils n) (.cells #[.int .i64 (n : Int), .slice (some ⟨W.heap.size + 1, 0, none⟩) n n, .slice (some ⟨W.heap.size, 0, none⟩) n n] 66 (0, 0)); rw [e3]; exact ⟨W.heap.size + 1, W.heap.size, W.heap.size + 1 + 1, rfl, f2, f1, f0, by omega, by omega, by omega, by omega, fb.drew⟩)
        | (obtain ⟨W3, e3, f0, f1, f2, fs, fb⟩ := alloc3 W (.cells #[.int .i64 (n : Int), .slice (some ⟨W.heap.size + 1, 0, none⟩) n n, .slice (some ⟨W.heap.size + 1 + 1, 0, none⟩) n n] 66 (0, 0)) (nils n) (nils n); rw [e3]; exact ⟨W.heap.size + 1, W.heap.size + 1 + 1, W.heap.size, rfl, f0, f1, f2, by omega, by omega, by omega, by omega, fb.drew⟩)
        | (obtain ⟨W3, e3, f0, f1, f2, fs, fb⟩ := alloc3 W (nils n) (.cells #[.int .i64 (n : Int), .slice (some ⟨W.heap.size + 1 + 1, 0, none⟩) n n, .slice (some ⟨W.heap.size, 0, none⟩) n n] 66 (0, 0)) (nils n); rw [e3]; exact ⟨W.heap.size + 1 + 1, W.heap.size, W.heap.size + 1, rfl, f1, f2, f0, by omega, by omega, by omega, by omega, fb.drew⟩)
        | (obtain ⟨W3, e3, f0, f1, f2, fs, fb⟩ := alloc3 W (.cells #[.int .i64 (n : Int), .slice (some ⟨W.heap.size + 1 + 1, 0, none⟩) n n, .slice (some ⟨W.heap.size + 1, 0, none⟩) n n] 66 (0, 0)) (nils n) (nils n); rw [e3]; exact ⟨W.heap.size + 1 + 1, W.heap.size + 1, W.heap.size, rfl, f0, f2, f1, by omega, by omega, by omega, by omega, fb.drew⟩)
  case rest =>
    obtain ⟨p, q, bx, rfl, hbx, hp, hq, hpq, hp0, hq0, hb0, hb⟩ := hcut
    have G1 := Lib.hid (grid_new hp hp0)
    have G2 := Lib.hid (grid_new hq hq0)
    have HBX := Lib.hid hbx
    have HPQ := Lib.hid (And.intro hpq (And.intro hp0 (And.intro hq0 hb0)))
    have HBC := Lib.hid hb
    have hap : ∀ k, Grid.has p (List.replicate n (Value.slice none 0 0)) k → ¬ Grid.has q (List.replicate n (Value.slice none 0 0)) k := by
      have hno : ∀ (r k : Nat), Grid.has r (List.replicate n (Value.slice none 0 0)) k → k = r := fun r k hk => by
        rcases hk with e | ⟨v, hv, hg⟩
        · exact e
        · obtain ⟨_, rfl⟩ := List.mem_replicate.1 hv
          cases hg
      intro k h1 h2
      exact hpq ((hno p k h1).symm.trans (hno q k h2))
    have HAP := Lib.hid hap
    clear hbx hp hq hpq hp0 hq0 hb0 hb hap hmk
    go_wp2
    go_loopw [16] (fun i wi => ∃ (k : Nat) (V U : List Value), k ≤ L.length ∧ i = .int .i64 k ∧ wi.heap[bx]? = some (.cells #[.int .i64 (n : Int), .slice (some ⟨p, 0, none⟩) n n, .slice (some ⟨q, 0, none⟩) n n] 66 (0, 0)) ∧ Grid W.heap.size wi p V (ofOut n (L.take k)) ∧ Grid W.heap.size wi q U (ofAll n (L.take k)) ∧ (∀ j, Grid.has p V j → ¬ Grid.has q U j) ∧ Below W.heap.size W wi) (fun i _ => L.length - (intOf i).toNat)
    case atStart => exact ⟨0, _, _, by omega, rfl, HBX.out, G1.out, G2.out, HAP.out, HBC.out⟩
    case round =>
      obtain ⟨k, V, U, hk, rfl, hbx, g1, g2, hap, hb⟩ := hrel
      have HB := Lib.hid hb
      have HX := Lib.hid hbx
      have HG1 := Lib.hid g1
      have HG2 := Lib.hid g2
      have HA := Lib.hid hap
      by_cases hlt : k < L.length
      · obtain ⟨⟨x1, x2⟩, hx⟩ : ∃ x, L[k]? = some x := ⟨_, List.getElem?_eq_getElem hlt⟩
        obtain ⟨g, o, e, _, q0, q1⟩ := drop_two (HL.out.below (HBW.out.trans (hb.mono HBW.out.size)) (Nat.le_refl _)) hx
        subst e
        have i1 : (k : Int) < (L.length : Int) := by omega
        have i2 : (k : Int) < 100000 := by omega
        have HX2 := Lib.hid hx
        clear hx hbx g1 g2 hap hb
        obtain ⟨h01, h02, h03, h04⟩ := HIN.out _ (List.mem_of_getElem? HX2.out)
        dsimp only at h01 h02 h03 h04
        obtain ⟨a, rfl⟩ : ∃ a : Nat, x1 = (a : Int) := ⟨x1.toNat, by omega⟩
        obtain ⟨z, rfl⟩ : ∃ a : Nat, x2 = (a : Int) := ⟨x2.toNat, by omega⟩
        have HAZ := Lib.hid (show a < n ∧ z < n by omega)
        clear h01 h03
        go_upto_region 5 with (fail)
        obtain ⟨eb, heb⟩ : ∃ eb, wr.heap.size = eb := ⟨_, rfl⟩
        obtain ⟨wc, hw1, gw1, hb1, hs1⟩ := box_new wr (.cells #[.int .i64 (a : Int), .int .i64 (z : Int)] 27 (0, 0))
        rw [hw1]
        have HWR := Lib.hid hb1
        rw [heb] at gw1 hb1 ⊢
        have HGW1 := Lib.hid gw1
        have HX1 := Lib.hid ((HWR.out.block bx (lt_of_heap HX.out)).trans HX.out)
        have HG11 := Lib.hid (HG1.out.below HWR.out)
        have HG21 := Lib.hid (HG2.out.below HWR.out)
        have HBW1 := Lib.hid (show Below W.heap.size W wc from HB.out.trans (HWR.out.mono HB.out.size))
        have HAP1 := Lib.hid HA.out
        have ja : (a : Int) < (n : Int) := by have := HAZ.out; omega
        have jz : (z : Int) < (n : Int) := by have := HAZ.out; omega
        obtain ⟨R1, hR1⟩ : ∃ R, R = ofOut n (L.take k) := ⟨_, rfl⟩
        obtain ⟨R2, hR2⟩ : ∃ R, R = ofAll n (L.take k) := ⟨_, rfl⟩
        have HR1 := Lib.hid hR1
        have HR2 := Lib.hid hR2
        rw [← hR1] at HG11
        rw [← hR2] at HG21
        have HLK := Lib.hid (show (L.take k).length ≤ 100000 by rw [List.length_take]; omega)
        have HL1 := Lib.hid (show R1.length = n ∧ ∀ r ∈ R1, r.length ≤ 100000 from ⟨by rw [HR1.out, out_len], fun r hr => Nat.le_trans (out_short n (L.take k) r (HR1.out ▸ hr)) HLK.out⟩)
        have HL2 := Lib.hid (show R2.length = n ∧ ∀ r ∈ R2, r.length ≤ 200000 from ⟨by rw [HR2.out, all_len], fun r hr => Nat.le_trans (all_short n (L.take k) r (HR2.out ▸ hr)) (by have := HLK.out; omega)⟩)
        obtain ⟨i0, hi, hz0, hz1, hz2⟩ := info_parts info3
        clear hw1 gw1 hb1 hs1 q0 q1 heb hR1 hR2
        have d0 := cell_of_heap (i := 0) HGW1.out rfl
        have d1 := cell_of_heap (i := 1) HGW1.out rfl
        have b1 := cell_of_heap (i := 1) HX1.out rfl
        obtain ⟨r0, hr0⟩ : ∃ r, R1[a]? = some r := ⟨_, List.getElem?_eq_getElem (by rw [HL1.out.1]; exact HAZ.out.1)⟩
        obtain ⟨v0, hv0, hrow0, c0, f0⟩ := HG11.out.row_at hr0
        have HR0 := Lib.hid hr0
        have HV0 := Lib.hid hv0
        have HROW0 := Lib.hid hrow0
        have HLEN0 := Lib.hid (show r0.length ≤ 100000 from HL1.out.2 r0 (List.mem_of_getElem? hr0))
        have HSS := Lib.hid (show ∀ W', Fr (fun j => Grid.has p V j) wc W' → W'.cell? ⟨eb, 0, none⟩ = some (.int .i64 (a : Int)) ∧ W'.cell? ⟨eb, 1, none⟩ = some (.int .i64 (z : Int)) ∧ W'.cell? ⟨bx, 1, none⟩ = some (.slice (some ⟨p, 0, none⟩) n n) from
          fun W' hf => ⟨hf.cell d0 (lt_of_heap HGW1.out) (HG11.out.other HGW1.out (by decide) (by decide)), hf.cell d1 (lt_of_heap HGW1.out) (HG11.out.other HGW1.out (by decide) (by decide)), hf.cell b1 (lt_of_heap HX1.out) (HG11.out.other HX1.out (by decide) (by decide))⟩)
        clear hr0 hv0 hrow0
        have HVM := Lib.hid (show ∀ k, v0.ownBlock = some k → Grid.has p V k from fun k hk => .inr ⟨v0, List.mem_of_getElem? HV0.out, hk⟩)
        have LP := Lib.hid (lt_of_heap HG11.out.blk)
        have NP := Lib.hid (HG11.out.not_p (List.mem_of_getElem? HV0.out))
        go_cut [16] from 16 to 65 (fun i wx => i = .int .i64 (k : Int) ∧ Pushed W.heap.size wc wx p V R1 a z)
        case first =>
          have H3 := Lib.hid (show Below wc.heap.size wc ((wc.alloc (.cells #[.int .i64 (z : Int)] 3)).drew) from ((Below.refl _ _).alloc (Nat.le_refl _) _).drew)
          have HBs3 := Lib.hid (show W.heap.size ≤ ((wc.alloc (.cells #[.int .i64 (z : Int)] 3)).drew).heap.size from Nat.le_trans HBW1.out.size H3.out.size)
          have c0b : (wc.alloc (.cells #[.int .i64 (z : Int)] 3)).cell? ⟨p, a, none⟩ = some v0 := ((Fr.alloc wc _).cell c0 LP.out (fun h => h))
          refine wp_region_noPanic ?_
          refine wp_region_held_drew (S := fun W' => W'.cell? ⟨eb, 0, none⟩ = some (.int .i64 (a : Int)) ∧ W'.cell? ⟨eb, 1, none⟩ = some (.int .i64 (z : Int)) ∧ W'.cell? ⟨bx, 1, none⟩ = some (.slice (some ⟨p, 0, none⟩) n n)) (by kernel_rfl) ?_ (fun hHeld => ?_)
          · (first | exact HSS.out _ (Fr.refl _ _) | exact HSS.out _ ((Fr.drew wc).mono (fun _ h => h.elim)) | exact HSS.out _ ((Fr.alloc wc _).mono (fun _ h => h.elim)) | exact HSS.out _ (((Fr.alloc wc _).trans (Fr.drew _)).mono (fun _ h => h.elim)) | exact HSS.out _ (((Fr.drew wc).trans (Fr.alloc _ _)).mono (fun _ h => h.elim)) | exact HSS.out _ hfw | exact HSS.out _ (hfw.trans ((Fr.setCell wb ⟨p, a, none⟩ _).mono (fun _ h => .inl h))))
          refine wpAnyH_take (i := 0) (oi := { dst := some 20, op := Op.fieldAddr 66 (Operand.tmp 5) 1, type := 0, pos := "truth.go:42", after := #[], guard := none }) (v := ?_) rfl (by kernel_rfl) (by kernel_rfl) (by kernel_rfl) (fun _ _ _ h => h) (Or.inl ⟨by rfl, ?_⟩) (by assumption) ?_
          rotate_left
          · ((intro wS hSw; (try dsimp only at hSw); go_simp); try with_reducible rfl)
          try simp only [Act.put, List.setIfInBounds_toArray, List.set_cons_zero, List.set_cons_succ]
          refine wpAnyH_take (i := 1) (oi := { dst := some 21, op := Op.load 64 (Operand.tmp 20), type := 64, pos := "truth.go:42", after := #[{ on := 0, ground := Ground.data }], guard := none }) (v := ?_) rfl (by kernel_rfl) (by kernel_rfl) (by kernel_rfl) (fun _ _ _ h => h) (Or.inl ⟨by rfl, ?_⟩) (by assumption) ?_
          rotate_left
          · ((intro wS hSw; (try dsimp only at hSw); go_simp); try with_reducible rfl)
          try simp only [Act.put, List.setIfInBounds_toArray, List.set_cons_zero, List.set_cons_succ]
          refine wpAnyH_take (i := 2) (oi := { dst := some 22, op := Op.fieldAddr 27 (Operand.tmp 7) 0, type := 0, pos := "truth.go:42", after := #[], guard := none }) (v := ?_) rfl (by kernel_rfl) (by kernel_rfl) (by kernel_rfl) (fun _ _ _ h => h) (Or.inl ⟨by rfl, ?_⟩) (by assumption) ?_
          rotate_left
          · ((intro wS hSw; (try dsimp only at hSw); go_simp); try with_reducible rfl)
          try simp only [Act.put, List.setIfInBounds_toArray, List.set_cons_zero, List.set_cons_succ]
          refine wpAnyH_take (i := 3) (oi := { dst := some 23, op := Op.load 3 (Operand.tmp 22), type := 3, pos := "truth.go:42", after := #[{ on := 2, ground := Ground.data }], guard := none }) (v := ?_) rfl (by kernel_rfl) (by kernel_rfl) (by kernel_rfl) (fun _ _ _ h => h) (Or.inl ⟨by rfl, ?_⟩) (by assumption) ?_
          rotate_left
          · ((intro wS hSw; (try dsimp only at hSw); go_simp); try with_reducible rfl)
          try simp only [Act.put, List.setIfInBounds_toArray, List.set_cons_zero, List.set_cons_succ]
          refine wpAnyH_take (i := 4) (oi := { dst := some 24, op := Op.fieldAddr 66 (Operand.tmp 5) 1, type := 0, pos := "truth.go:42", after := #[], guard := none }) (v := ?_) rfl (by kernel_rfl) (by kernel_rfl) (by kernel_rfl) (fun _ _ _ h => h) (Or.inl ⟨by rfl, ?_⟩) (by assumption) ?_
          rotate_left
          · ((intro wS hSw; (try dsimp only at hSw); go_simp); try with_reducible rfl)
          try simp only [Act.put, List.setIfInBounds_toArray, List.set_cons_zero, List.set_cons_succ]
          refine wpAnyH_take (i := 5) (oi := { dst := some 25, op := Op.load 64 (Operand.tmp 24), type := 64, pos := "truth.go:42", after := #[{ on := 4, ground := Ground.data }], guard := none }) (v := ?_) rfl (by kernel_rfl) (by kernel_rfl) (by kernel_rfl) (fun _ _ _ h => h) (Or.inl ⟨by rfl, ?_⟩) (by assumption) ?_
          rotate_left
          · ((intro wS hSw; (try dsimp only at hSw); go_simp); try with_reducible rfl)
          try simp only [Act.put, List.setIfInBounds_toArray, List.set_cons_zero, List.set_cons_succ]
          refine wpAnyH_take (i := 6) (oi := { dst := some 26, op := Op.fieldAddr 27 (Operand.tmp 7) 0, type := 0, pos := "truth.go:42", after := #[], guard := none }) (v := ?_) rfl (by kernel_rfl) (by kernel_rfl) (by kernel_rfl) (fun _ _ _ h => h) (Or.inl ⟨by rfl, ?_⟩) (by assumption) ?_
          rotate_left
          · ((intro wS hSw; (try dsimp only at hSw); go_simp); try with_reducible rfl)
          try simp only [Act.put, List.setIfInBounds_toArray, List.set_cons_zero, List.set_cons_succ]
          refine wpAnyH_take (i := 7) (oi := { dst := some 27, op := Op.load 3 (Operand.tmp 26), type := 3, pos := "truth.go:42", after := #[{ on := 6, ground := Ground.data }], guard := none }) (v := ?_) rfl (by kernel_rfl) (by kernel_rfl) (by kernel_rfl) (fun _ _ _ h => h) (Or.inl ⟨by rfl, ?_⟩) (by assumption) ?_
          rotate_left
          · ((intro wS hSw; (try dsimp only at hSw); go_simp); try with_reducible rfl)
          try simp only [Act.put, List.setIfInBounds_toArray, List.set_cons_zero, List.set_cons_succ]
          refine wpAnyH_take (i := 8) (oi := { dst := some 28, op := Op.indexAddr 64 (Operand.tmp 25) (Operand.tmp 27), type := 0, pos := "truth.go:42", after := #[{ on := 5, ground := Ground.data }, { on := 7, ground := Ground.data }], guard := none }) (v := ?_) rfl (by kernel_rfl) (by kernel_rfl) (by kernel_rfl) (fun _ _ _ h => h) (Or.inl ⟨by rfl, ?_⟩) (by assumption) ?_
          rotate_left
          · ((intro wS hSw; (try dsimp only at hSw); go_simp); try with_reducible rfl)
          try simp only [Act.put, List.setIfInBounds_toArray, List.set_cons_zero, List.set_cons_succ]
          refine wpAnyH_take (i := 10) (oi := { dst := some 30, op := Op.fieldAddr 27 (Operand.tmp 7) 1, type := 0, pos := "truth.go:42", after := #[], guard := none }) (v := ?_) rfl (by kernel_rfl) (by kernel_rfl) (by kernel_rfl) (fun _ _ _ h => h) (Or.inl ⟨by rfl, ?_⟩) (by assumption) ?_
          rotate_left
          · ((intro wS hSw; (try dsimp only at hSw); go_simp); try with_reducible rfl)
          try simp only [Act.put, List.setIfInBounds_toArray, List.set_cons_zero, List.set_cons_succ]
          refine wpAnyH_take (i := 11) (oi := { dst := some 31, op := Op.load 3 (Operand.tmp 30), type := 3, pos := "truth.go:42", after := #[{ on := 10, ground := Ground.data }], guard := none }) (v := ?_) rfl (by kernel_rfl) (by kernel_rfl) (by kernel_rfl) (fun _ _ _ h => h) (Or.inl ⟨by rfl, ?_⟩) (by assumption) ?_
          rotate_left
          · ((intro wS hSw; (try dsimp only at hSw); go_simp); try with_reducible rfl)
          try simp only [Act.put, List.setIfInBounds_toArray, List.set_cons_zero, List.set_cons_succ]
          refine wpAnyH_ready (rs := [9, 12]) (by kernel_rfl) (by simp) ?_
          refine AllReadyH.cons (o := { dst := some 29, op := Op.load 54 (Operand.tmp 28), type := 54, pos := "truth.go:42", after := #[{ on := 8, ground := Ground.data }], guard := none }) rfl (fun K hK => ?_) (AllReadyH.cons (o := { dst := some 32, op := Op.buildSlice 54 1 #[(0, Operand.tmp 31)], type := 54, pos := "truth.go:42", after := #[{ on := 11, ground := Ground.data }], guard := none }) rfl (fun K hK => ?_) AllReadyH.nil)
          · go_simp
            refine hK.out _ _ ?_ (fun hHeld => ?_)
            · (first | exact HSS.out _ (Fr.refl _ _) | exact HSS.out _ ((Fr.drew wc).mono (fun _ h => h.elim)) | exact HSS.out _ ((Fr.alloc wc _).mono (fun _ h => h.elim)) | exact HSS.out _ (((Fr.alloc wc _).trans (Fr.drew _)).mono (fun _ h => h.elim)) | exact HSS.out _ (((Fr.drew wc).trans (Fr.alloc _ _)).mono (fun _ h => h.elim)) | exact HSS.out _ hfw | exact HSS.out _ (hfw.trans ((Fr.setCell wb ⟨p, a, none⟩ _).mono (fun _ h => .inl h))))
            clear hK K
            try simp only [Act.put, List.setIfInBounds_toArray, List.set_cons_zero, List.set_cons_succ]
            refine wpAnyH_ready (rs := [12]) (by kernel_rfl) (by simp) ?_
            refine AllReadyH.cons (o := { dst := some 32, op := Op.buildSlice 54 1 #[(0, Operand.tmp 31)], type := 54, pos := "truth.go:42", after := #[{ on := 11, ground := Ground.data }], guard := none }) rfl (fun K hK => ?_) AllReadyH.nil
            go_simp
            refine hK.out _ _ ?_ (fun hHeld => ?_)
            · (first | exact HSS.out _ (Fr.refl _ _) | exact HSS.out _ ((Fr.drew wc).mono (fun _ h => h.elim)) | exact HSS.out _ ((Fr.alloc wc _).mono (fun _ h => h.elim)) | exact HSS.out _ (((Fr.alloc wc _).trans (Fr.drew _)).mono (fun _ h => h.elim)) | exact HSS.out _ (((Fr.drew wc).trans (Fr.alloc _ _)).mono (fun _ h => h.elim)) | exact HSS.out _ hfw | exact HSS.out _ (hfw.trans ((Fr.setCell wb ⟨p, a, none⟩ _).mono (fun _ h => .inl h))))
            clear hK K
            try simp only [Act.put, List.setIfInBounds_toArray, List.set_cons_zero, List.set_cons_succ]
            refine wpAnyH_ready (rs := [13]) (by kernel_rfl) (by simp) ?_
            refine AllReadyH.cons (o := { dst := some 33, op := Op.call { callee := Callee.builtin Builtin.append, args := #[Operand.tmp 29, Operand.tmp 32], argTypes := #[54, 54] }, type := 54, pos := "truth.go:42", after := #[{ on := 9, ground := Ground.data }, { on := 12, ground := Ground.data }], guard := none }) rfl (fun K hK => ?_) AllReadyH.nil
            (refine step_append_at _ (by rfl) _ _ _ (by rfl) W.heap.size 3 i0 _ 1 8 Try.underlying54 hi hz0 hz1 hz2 rfl (by omega) v0 r0.length (cellsK encI r0) (by rfl) (HROW0.out.alloc _) ⟨wc.heap.size, 0, none⟩ 1 1 [.int .i64 (z : Int)] (by rfl) (by rfl) (World.news_of_block (heap_alloc_new wc _)) (by simp [Value.oneCell']) (by unfold maxLen; have := HLEN0.out; omega) (by have := HLEN0.out; omega) HBs3.out ?_; intro vb wb hownb hgrowb hnilb hlocb; have hfb := Fr.grow (S := fun k => v0.ownBlock = some k) H3.out hgrowb (fun i hi => .inl hi); have hfw := hfb.mono HVM.out; have k1 := hfb.cell c0 LP.out NP.out; have kf := hfb.frozen f0 LP.out NP.out; obtain ⟨A', c', rfl, _, _⟩ := row_open encI_len hownb)
            refine hK.out _ _ ?_ (fun hHeld => ?_)
            · (first | exact HSS.out _ (Fr.refl _ _) | exact HSS.out _ ((Fr.drew wc).mono (fun _ h => h.elim)) | exact HSS.out _ ((Fr.alloc wc _).mono (fun _ h => h.elim)) | exact HSS.out _ (((Fr.alloc wc _).trans (Fr.drew _)).mono (fun _ h => h.elim)) | exact HSS.out _ (((Fr.drew wc).trans (Fr.alloc _ _)).mono (fun _ h => h.elim)) | exact HSS.out _ hfw | exact HSS.out _ (hfw.trans ((Fr.setCell wb ⟨p, a, none⟩ _).mono (fun _ h => .inl h))))
            clear hK K
            try simp only [Act.put, List.setIfInBounds_toArray, List.set_cons_zero, List.set_cons_succ]
            refine wpAnyH_take (i := 14) (oi := { dst := some 34, op := Op.indexAddr 64 (Operand.tmp 21) (Operand.tmp 23), type := 0, pos := "truth.go:42", after := #[{ on := 1, ground := Ground.data }, { on := 3, ground := Ground.data }, { on := 0, ground := Ground.phase }, { on := 1, ground := Ground.phase }, { on := 2, ground := Ground.phase }, { on := 3, ground := Ground.phase }, { on := 4, ground := Ground.phase }, { on := 5, ground := Ground.phase }, { on := 6, ground := Ground.phase }, { on := 7, ground := Ground.phase }, { on := 8, ground := Ground.phase }, { on := 9, ground := Ground.phase }, { on := 10, ground := Ground.phase }, { on := 11, ground := Ground.phase }, { on := 12, ground := Ground.phase }, { on := 13, ground := Ground.phase }], guard := none }) (v := ?_) rfl (by kernel_rfl) (by kernel_rfl) (by kernel_rfl) (fun _ _ _ h => h) (Or.inl ⟨by rfl, ?_⟩) (by assumption) ?_
            rotate_left
            · ((intro wS hSw; (try dsimp only at hSw); go_simp); try with_reducible rfl)
            try simp only [Act.put, List.setIfInBounds_toArray, List.set_cons_zero, List.set_cons_succ]
            refine wpAnyH_ready (rs := [15]) (by kernel_rfl) (by simp) ?_
            refine AllReadyH.cons (o := { dst := none, op := Op.store 54 (Operand.tmp 34) (Operand.tmp 33), type := 0, pos := "truth.go:42", after := #[{ on := 14, ground := Ground.data }, { on := 13, ground := Ground.data }, { on := 13, ground := Ground.chain }, { on := 0, ground := Ground.phase }, { on := 1, ground := Ground.phase }, { on := 2, ground := Ground.phase }, { on := 3, ground := Ground.phase }, { on := 4, ground := Ground.phase }, { on := 5, ground := Ground.phase }, { on := 6, ground := Ground.phase }, { on := 7, ground := Ground.phase }, { on := 8, ground := Ground.phase }, { on := 9, ground := Ground.phase }, { on := 10, ground := Ground.phase }, { on := 11, ground := Ground.phase }, { on := 12, ground := Ground.phase }, { on := 13, ground := Ground.phase }], guard := none }) rfl (fun K hK => ?_) AllReadyH.nil
            go_simp
            refine hK.out _ _ ?_ (fun hHeld => ?_)
            · (first | exact HSS.out _ (Fr.refl _ _) | exact HSS.out _ ((Fr.drew wc).mono (fun _ h => h.elim)) | exact HSS.out _ ((Fr.alloc wc _).mono (fun _ h => h.elim)) | exact HSS.out _ (((Fr.alloc wc _).trans (Fr.drew _)).mono (fun _ h => h.elim)) | exact HSS.out _ (((Fr.drew wc).trans (Fr.alloc _ _)).mono (fun _ h => h.elim)) | exact HSS.out _ hfw | exact HSS.out _ (hfw.trans ((Fr.setCell wb ⟨p, a, none⟩ _).mono (fun _ h => .inl h))))
            clear hK K
            try simp only [Act.put, List.setIfInBounds_toArray, List.set_cons_zero, List.set_cons_succ]
            refine wpAnyH_done (by kernel_rfl) ?_ _
            refine NoPanic.normal ?_
            have HFIN := Lib.hid (pushed (x := (z : Int)) HG11.out HV0.out HR0.out hfb hownb (loc_of hlocb H3.out.size))
            clear hownb hgrowb hnilb hlocb hfb hfw
            go_wp2
            go_meet
            exact ⟨rfl, HFIN.out⟩
          · go_simp
            refine hK.out _ _ ?_ (fun hHeld => ?_)
            · (first | exact HSS.out _ (Fr.refl _ _) | exact HSS.out _ ((Fr.drew wc).mono (fun _ h => h.elim)) | exact HSS.out _ ((Fr.alloc wc _).mono (fun _ h => h.elim)) | exact HSS.out _ (((Fr.alloc wc _).trans (Fr.drew _)).mono (fun _ h => h.elim)) | exact HSS.out _ (((Fr.drew wc).trans (Fr.alloc _ _)).mono (fun _ h => h.elim)) | exact HSS.out _ hfw | exact HSS.out _ (hfw.trans ((Fr.setCell wb ⟨p, a, none⟩ _).mono (fun _ h => .inl h))))
            clear hK K
            try simp only [Act.put, List.setIfInBounds_toArray, List.set_cons_zero, List.set_cons_succ]
            refine wpAnyH_ready (rs := [9]) (by kernel_rfl) (by simp) ?_
            refine AllReadyH.cons (o := { dst := some 29, op := Op.load 54 (Operand.tmp 28), type := 54, pos := "truth.go:42", after := #[{ on := 8, ground := Ground.data }], guard := none }) rfl (fun K hK => ?_) AllReadyH.nil
            go_simp
            refine hK.out _ _ ?_ (fun hHeld => ?_)
            · (first | exact HSS.out _ (Fr.refl _ _) | exact HSS.out _ ((Fr.drew wc).mono (fun _ h => h.elim)) | exact HSS.out _ ((Fr.alloc wc _).mono (fun _ h => h.elim)) | exact HSS.out _ (((Fr.alloc wc _).trans (Fr.drew _)).mono (fun _ h => h.elim)) | exact HSS.out _ (((Fr.drew wc).trans (Fr.alloc _ _)).mono (fun _ h => h.elim)) | exact HSS.out _ hfw | exact HSS.out _ (hfw.trans ((Fr.setCell wb ⟨p, a, none⟩ _).mono (fun _ h => .inl h))))
            clear hK K
            try simp only [Act.put, List.setIfInBounds_toArray, List.set_cons_zero, List.set_cons_succ]
            refine wpAnyH_ready (rs := [13]) (by kernel_rfl) (by simp) ?_
            refine AllReadyH.cons (o := { dst := some 33, op := Op.call { callee := Callee.builtin Builtin.append, args := #[Operand.tmp 29, Operand.tmp 32], argTypes := #[54, 54] }, type := 54, pos := "truth.go:42", after := #[{ on := 9, ground := Ground.data }, { on := 12, ground := Ground.data }], guard := none }) rfl (fun K hK => ?_) AllReadyH.nil
            (refine step_append_at _ (by rfl) _ _ _ (by rfl) W.heap.size 3 i0 _ 1 8 Try.underlying54 hi hz0 hz1 hz2 rfl (by omega) v0 r0.length (cellsK encI r0) (by rfl) (HROW0.out.alloc _) ⟨wc.heap.size, 0, none⟩ 1 1 [.int .i64 (z : Int)] (by rfl) (by rfl) (World.news_of_block (heap_alloc_new wc _)) (by simp [Value.oneCell']) (by unfold maxLen; have := HLEN0.out; omega) (by have := HLEN0.out; omega) HBs3.out ?_; intro vb wb hownb hgrowb hnilb hlocb; have hfb := Fr.grow (S := fun k => v0.ownBlock = some k) H3.out hgrowb (fun i hi => .inl hi); have hfw := hfb.mono HVM.out; have k1 := hfb.cell c0 LP.out NP.out; have kf := hfb.frozen f0 LP.out NP.out; obtain ⟨A', c', rfl, _, _⟩ := row_open encI_len hownb)
            refine hK.out _ _ ?_ (fun hHeld => ?_)
            · (first | exact HSS.out _ (Fr.refl _ _) | exact HSS.out _ ((Fr.drew wc).mono (fun _ h => h.elim)) | exact HSS.out _ ((Fr.alloc wc _).mono (fun _ h => h.elim)) | exact HSS.out _ (((Fr.alloc wc _).trans (Fr.drew _)).mono (fun _ h => h.elim)) | exact HSS.out _ (((Fr.drew wc).trans (Fr.alloc _ _)).mono (fun _ h => h.elim)) | exact HSS.out _ hfw | exact HSS.out _ (hfw.trans ((Fr.setCell wb ⟨p, a, none⟩ _).mono (fun _ h => .inl h))))
            clear hK K
            try simp only [Act.put, List.setIfInBounds_toArray, List.set_cons_zero, List.set_cons_succ]
            refine wpAnyH_take (i := 14) (oi := { dst := some 34, op := Op.indexAddr 64 (Operand.tmp 21) (Operand.tmp 23), type := 0, pos := "truth.go:42", after := #[{ on := 1, ground := Ground.data }, { on := 3, ground := Ground.data }, { on := 0, ground := Ground.phase }, { on := 1, ground := Ground.phase }, { on := 2, ground := Ground.phase }, { on := 3, ground := Ground.phase }, { on := 4, ground := Ground.phase }, { on := 5, ground := Ground.phase }, { on := 6, ground := Ground.phase }, { on := 7, ground := Ground.phase }, { on := 8, ground := Ground.phase }, { on := 9, ground := Ground.phase }, { on := 10, ground := Ground.phase }, { on := 11, ground := Ground.phase }, { on := 12, ground := Ground.phase }, { on := 13, ground := Ground.phase }], guard := none }) (v := ?_) rfl (by kernel_rfl) (by kernel_rfl) (by kernel_rfl) (fun _ _ _ h => h) (Or.inl ⟨by rfl, ?_⟩) (by assumption) ?_
            rotate_left
            · ((intro wS hSw; (try dsimp only at hSw); go_simp); try with_reducible rfl)
            try simp only [Act.put, List.setIfInBounds_toArray, List.set_cons_zero, List.set_cons_succ]
            refine wpAnyH_ready (rs := [15]) (by kernel_rfl) (by simp) ?_
            refine AllReadyH.cons (o := { dst := none, op := Op.store 54 (Operand.tmp 34) (Operand.tmp 33), type := 0, pos := "truth.go:42", after := #[{ on := 14, ground := Ground.data }, { on := 13, ground := Ground.data }, { on := 13, ground := Ground.chain }, { on := 0, ground := Ground.phase }, { on := 1, ground := Ground.phase }, { on := 2, ground := Ground.phase }, { on := 3, ground := Ground.phase }, { on := 4, ground := Ground.phase }, { on := 5, ground := Ground.phase }, { on := 6, ground := Ground.phase }, { on := 7, ground := Ground.phase }, { on := 8, ground := Ground.phase }, { on := 9, ground := Ground.phase }, { on := 10, ground := Ground.phase }, { on := 11, ground := Ground.phase }, { on := 12, ground := Ground.phase }, { on := 13, ground := Ground.phase }], guard := none }) rfl (fun K hK => ?_) AllReadyH.nil
            go_simp
            refine hK.out _ _ ?_ (fun hHeld => ?_)
            · (first | exact HSS.out _ (Fr.refl _ _) | exact HSS.out _ ((Fr.drew wc).mono (fun _ h => h.elim)) | exact HSS.out _ ((Fr.alloc wc _).mono (fun _ h => h.elim)) | exact HSS.out _ (((Fr.alloc wc _).trans (Fr.drew _)).mono (fun _ h => h.elim)) | exact HSS.out _ (((Fr.drew wc).trans (Fr.alloc _ _)).mono (fun _ h => h.elim)) | exact HSS.out _ hfw | exact HSS.out _ (hfw.trans ((Fr.setCell wb ⟨p, a, none⟩ _).mono (fun _ h => .inl h))))
            clear hK K
            try simp only [Act.put, List.setIfInBounds_toArray, List.set_cons_zero, List.set_cons_succ]
            refine wpAnyH_done (by kernel_rfl) ?_ _
            refine NoPanic.normal ?_
            have HFIN := Lib.hid (pushed (x := (z : Int)) HG11.out HV0.out HR0.out hfb hownb (loc_of hlocb H3.out.size))
            clear hownb hgrowb hnilb hlocb hfb hfw
            go_wp2
            go_meet
            exact ⟨rfl, HFIN.out⟩
        case rest =>
          obtain ⟨rfl, V5, hg5, hh5, hf5⟩ := hcut
          have NX := Lib.hid (hf5.keep HX1.out (HG11.out.other HX1.out (by decide) (by decide)))
          have NG := Lib.hid (hf5.keep HGW1.out (HG11.out.other HGW1.out (by decide) (by decide)))
          have N2 := Lib.hid (HG21.out.fr hf5 (fun j hj hk => HAP1.out j hk hj))
          have N1 := Lib.hid hg5
          have NB := Lib.hid (show Below W.heap.size W wc from HBW1.out.trans (hf5.below HBW1.out.size (fun j hj => HG11.out.ge hj)))
          have NA := Lib.hid (show ∀ j, Grid.has p V5 j → ¬ Grid.has q U j from fun j hj hu => by
            rcases hh5 j hj with h | h
            · exact HAP1.out j h hu
            · have := HG21.out.lt hu; omega)
          clear hg5 hh5 hf5 HX1 HGW1 HG11 HG21 HBW1 HAP1 HSS HVM LP NP HR0 HV0 HROW0 HLEN0 d0 d1 b1 r0 v0 c0 f0
          have HX1 := NX
          have HGW1 := NG
          have HG11 := N1
          have HG21 := N2
          have HBW1 := NB
          have HAP1 := NA
          clear NX NG N1 N2 NB NA
          go_upto_region 6 with (fail)
          have d0 := cell_of_heap (i := 0) HGW1.out rfl
          have d1 := cell_of_heap (i := 1) HGW1.out rfl
          have b1 := cell_of_heap (i := 2) HX1.out rfl
          obtain ⟨r0, hr0⟩ : ∃ r, R2[a]? = some r := ⟨_, List.getElem?_eq_getElem (by rw [HL2.out.1]; exact HAZ.out.1)⟩
          obtain ⟨v0, hv0, hrow0, c0, f0⟩ := HG21.out.row_at hr0
          have HR0 := Lib.hid hr0
          have HV0 := Lib.hid hv0
          have HROW0 := Lib.hid hrow0
          have HLEN0 := Lib.hid (show r0.length ≤ 200000 from HL2.out.2 r0 (List.mem_of_getElem? hr0))
          have HSS := Lib.hid (show ∀ W', Fr (fun j => Grid.has q U j) wc W' → W'.cell? ⟨eb, 0, none⟩ = some (.int .i64 (a : Int)) ∧ W'.cell? ⟨eb, 1, none⟩ = some (.int .i64 (z : Int)) ∧ W'.cell? ⟨bx, 2, none⟩ = some (.slice (some ⟨q, 0, none⟩) n n) from
            fun W' hf => ⟨hf.cell d0 (lt_of_heap HGW1.out) (HG21.out.other HGW1.out (by decide) (by decide)), hf.cell d1 (lt_of_heap HGW1.out) (HG21.out.other HGW1.out (by decide) (by decide)), hf.cell b1 (lt_of_heap HX1.out) (HG21.out.other HX1.out (by decide) (by decide))⟩)
          clear hr0 hv0 hrow0
          have HVM := Lib.hid (show ∀ k, v0.ownBlock = some k → Grid.has q U k from fun k hk => .inr ⟨v0, List.mem_of_getElem? HV0.out, hk⟩)
          have LP := Lib.hid (lt_of_heap HG21.out.blk)
          have NP := Lib.hid (HG21.out.not_p (List.mem_of_getElem? HV0.out))
          go_cut [16] from 16 to 65 (fun i wx => i = .int .i64 (k : Int) ∧ Pushed W.heap.size wc wx q U R2 a z)
          case first =>
            have H3 := Lib.hid (show Below wc.heap.size wc ((wc.alloc (.cells #[.int .i64 (z : Int)] 3)).drew) from ((Below.refl _ _).alloc (Nat.le_refl _) _).drew)
            have HBs3 := Lib.hid (show W.heap.size ≤ ((wc.alloc (.cells #[.int .i64 (z : Int)] 3)).drew).heap.size from Nat.le_trans HBW1.out.size H3.out.size)
            have c0b : (wc.alloc (.cells #[.int .i64 (z : Int)] 3)).cell? ⟨q, a, none⟩ = some v0 := ((Fr.alloc wc _).cell c0 LP.out (fun h => h))
            refine wp_region_noPanic ?_
            refine wp_region_held_drew (S := fun W' => W'.cell? ⟨eb, 0, none⟩ = some (.int .i64 (a : Int)) ∧ W'.cell? ⟨eb, 1, none⟩ = some (.int .i64 (z : Int)) ∧ W'.cell? ⟨bx, 2, none⟩ = some (.slice (some ⟨q, 0, none⟩) n n)) (by kernel_rfl) ?_ (fun hHeld => ?_)
            · (first | exact HSS.out _ (Fr.refl _ _) | exact HSS.out _ ((Fr.drew wc).mono (fun _ h => h.elim)) | exact HSS.out _ ((Fr.alloc wc _).mono (fun _ h => h.elim)) | exact HSS.out _ (((Fr.alloc wc _).trans (Fr.drew _)).mono (fun _ h => h.elim)) | exact HSS.out _ (((Fr.drew wc).trans (Fr.alloc _ _)).mono (fun _ h => h.elim)) | exact HSS.out _ hfw | exact HSS.out _ (hfw.trans ((Fr.setCell wb ⟨q, a, none⟩ _).mono (fun _ h => .inl h))))
            refine wpAnyH_take (i := 0) (oi := { dst := some 35, op := Op.fieldAddr 66 (Operand.tmp 5) 2, type := 0, pos := "truth.go:43", after := #[], guard := none }) (v := ?_) rfl (by kernel_rfl) (by kernel_rfl) (by kernel_rfl) (fun _ _ _ h => h) (Or.inl ⟨by rfl, ?_⟩) (by assumption) ?_
            rotate_left
            · ((intro wS hSw; (try dsimp only at hSw); go_simp); try with_reducible rfl)
            try simp only [Act.put, List.setIfInBounds_toArray, List.set_cons_zero, List.set_cons_succ]
            refine wpAnyH_take (i := 1) (oi := { dst := some 36, op := Op.load 64 (Operand.tmp 35), type := 64, pos := "truth.go:43", after := #[{ on := 0, ground := Ground.data }], guard := none }) (v := ?_) rfl (by kernel_rfl) (by kernel_rfl) (by kernel_rfl) (fun _ _ _ h => h) (Or.inl ⟨by rfl, ?_⟩) (by assumption) ?_
            rotate_left
            · ((intro wS hSw; (try dsimp only at hSw); go_simp); try with_reducible rfl)
            try simp only [Act.put, List.setIfInBounds_toArray, List.set_cons_zero, List.set_cons_succ]
            refine wpAnyH_take (i := 2) (oi := { dst := some 37, op := Op.fieldAddr 27 (Operand.tmp 7) 0, type := 0, pos := "truth.go:43", after := #[], guard := none }) (v := ?_) rfl (by kernel_rfl) (by kernel_rfl) (by kernel_rfl) (fun _ _ _ h => h) (Or.inl ⟨by rfl, ?_⟩) (by assumption) ?_
            rotate_left
            · ((intro wS hSw; (try dsimp only at hSw); go_simp); try with_reducible rfl)
            try simp only [Act.put, List.setIfInBounds_toArray, List.set_cons_zero, List.set_cons_succ]
            refine wpAnyH_take (i := 3) (oi := { dst := some 38, op := Op.load 3 (Operand.tmp 37), type := 3, pos := "truth.go:43", after := #[{ on := 2, ground := Ground.data }], guard := none }) (v := ?_) rfl (by kernel_rfl) (by kernel_rfl) (by kernel_rfl) (fun _ _ _ h => h) (Or.inl ⟨by rfl, ?_⟩) (by assumption) ?_
            rotate_left
            · ((intro wS hSw; (try dsimp only at hSw); go_simp); try with_reducible rfl)
            try simp only [Act.put, List.setIfInBounds_toArray, List.set_cons_zero, List.set_cons_succ]
            refine wpAnyH_take (i := 4) (oi := { dst := some 39, op := Op.fieldAddr 66 (Operand.tmp 5) 2, type := 0, pos := "truth.go:43", after := #[], guard := none }) (v := ?_) rfl (by kernel_rfl) (by kernel_rfl) (by kernel_rfl) (fun _ _ _ h => h) (Or.inl ⟨by rfl, ?_⟩) (by assumption) ?_
            rotate_left
            · ((intro wS hSw; (try dsimp only at hSw); go_simp); try with_reducible rfl)
            try simp only [Act.put, List.setIfInBounds_toArray, List.set_cons_zero, List.set_cons_succ]
            refine wpAnyH_take (i := 5) (oi := { dst := some 40, op := Op.load 64 (Operand.tmp 39), type := 64, pos := "truth.go:43", after := #[{ on := 4, ground := Ground.data }], guard := none }) (v := ?_) rfl (by kernel_rfl) (by kernel_rfl) (by kernel_rfl) (fun _ _ _ h => h) (Or.inl ⟨by rfl, ?_⟩) (by assumption) ?_
            rotate_left
            · ((intro wS hSw; (try dsimp only at hSw); go_simp); try with_reducible rfl)
            try simp only [Act.put, List.setIfInBounds_toArray, List.set_cons_zero, List.set_cons_succ]
            refine wpAnyH_take (i := 6) (oi := { dst := some 41, op := Op.fieldAddr 27 (Operand.tmp 7) 0, type := 0, pos := "truth.go:43", after := #[], guard := none }) (v := ?_) rfl (by kernel_rfl) (by kernel_rfl) (by kernel_rfl) (fun _ _ _ h => h) (Or.inl ⟨by rfl, ?_⟩) (by assumption) ?_
            rotate_left
            · ((intro wS hSw; (try dsimp only at hSw); go_simp); try with_reducible rfl)
            try simp only [Act.put, List.setIfInBounds_toArray, List.set_cons_zero, List.set_cons_succ]
            refine wpAnyH_take (i := 7) (oi := { dst := some 42, op := Op.load 3 (Operand.tmp 41), type := 3, pos := "truth.go:43", after := #[{ on := 6, ground := Ground.data }], guard := none }) (v := ?_) rfl (by kernel_rfl) (by kernel_rfl) (by kernel_rfl) (fun _ _ _ h => h) (Or.inl ⟨by rfl, ?_⟩) (by assumption) ?_
            rotate_left
            · ((intro wS hSw; (try dsimp only at hSw); go_simp); try with_reducible rfl)
            try simp only [Act.put, List.setIfInBounds_toArray, List.set_cons_zero, List.set_cons_succ]
            refine wpAnyH_take (i := 8) (oi := { dst := some 43, op := Op.indexAddr 64 (Operand.tmp 40) (Operand.tmp 42), type := 0, pos := "truth.go:43", after := #[{ on := 5, ground := Ground.data }, { on := 7, ground := Ground.data }], guard := none }) (v := ?_) rfl (by kernel_rfl) (by kernel_rfl) (by kernel_rfl) (fun _ _ _ h => h) (Or.inl ⟨by rfl, ?_⟩) (by assumption) ?_
            rotate_left
            · ((intro wS hSw; (try dsimp only at hSw); go_simp); try with_reducible rfl)
            try simp only [Act.put, List.setIfInBounds_toArray, List.set_cons_zero, List.set_cons_succ]
            refine wpAnyH_take (i := 10) (oi := { dst := some 45, op := Op.fieldAddr 27 (Operand.tmp 7) 1, type := 0, pos := "truth.go:43", after := #[], guard := none }) (v := ?_) rfl (by kernel_rfl) (by kernel_rfl) (by kernel_rfl) (fun _ _ _ h => h) (Or.inl ⟨by rfl, ?_⟩) (by assumption) ?_
            rotate_left
            · ((intro wS hSw; (try dsimp only at hSw); go_simp); try with_reducible rfl)
            try simp only [Act.put, List.setIfInBounds_toArray, List.set_cons_zero, List.set_cons_succ]
            refine wpAnyH_take (i := 11) (oi := { dst := some 46, op := Op.load 3 (Operand.tmp 45), type := 3, pos := "truth.go:43", after := #[{ on := 10, ground := Ground.data }], guard := none }) (v := ?_) rfl (by kernel_rfl) (by kernel_rfl) (by kernel_rfl) (fun _ _ _ h => h) (Or.inl ⟨by rfl, ?_⟩) (by assumption) ?_
            rotate_left
            · ((intro wS hSw; (try dsimp only at hSw); go_simp); try with_reducible rfl)
            try simp only [Act.put, List.setIfInBounds_toArray, List.set_cons_zero, List.set_cons_succ]
            refine wpAnyH_ready (rs := [9, 12]) (by kernel_rfl) (by simp) ?_
            refine AllReadyH.cons (o := { dst := some 44, op := Op.load 54 (Operand.tmp 43), type := 54, pos := "truth.go:43", after := #[{ on := 8, ground := Ground.data }], guard := none }) rfl (fun K hK => ?_) (AllReadyH.cons (o := { dst := some 47, op := Op.buildSlice 54 1 #[(0, Operand.tmp 46)], type := 54, pos := "truth.go:43", after := #[{ on := 11, ground := Ground.data }], guard := none }) rfl (fun K hK => ?_) AllReadyH.nil)
            · go_simp
              refine hK.out _ _ ?_ (fun hHeld => ?_)
              · (first | exact HSS.out _ (Fr.refl _ _) | exact HSS.out _ ((Fr.drew wc).mono (fun _ h => h.elim)) | exact HSS.out _ ((Fr.alloc wc _).mono (fun _ h => h.elim)) | exact HSS.out _ (((Fr.alloc wc _).trans (Fr.drew _)).mono (fun _ h => h.elim)) | exact HSS.out _ (((Fr.drew wc).trans (Fr.alloc _ _)).mono (fun _ h => h.elim)) | exact HSS.out _ hfw | exact HSS.out _ (hfw.trans ((Fr.setCell wb ⟨q, a, none⟩ _).mono (fun _ h => .inl h))))
              clear hK K
              try simp only [Act.put, List.setIfInBounds_toArray, List.set_cons_zero, List.set_cons_succ]
              refine wpAnyH_ready (rs := [12]) (by kernel_rfl) (by simp) ?_
              refine AllReadyH.cons (o := { dst := some 47, op := Op.buildSlice 54 1 #[(0, Operand.tmp 46)], type := 54, pos := "truth.go:43", after := #[{ on := 11, ground := Ground.data }], guard := none }) rfl (fun K hK => ?_) AllReadyH.nil
              go_simp
              refine hK.out _ _ ?_ (fun hHeld => ?_)
              · (first | exact HSS.out _ (Fr.refl _ _) | exact HSS.out _ ((Fr.drew wc).mono (fun _ h => h.elim)) | exact HSS.out _ ((Fr.alloc wc _).mono (fun _ h => h.elim)) | exact HSS.out _ (((Fr.alloc wc _).trans (Fr.drew _)).mono (fun _ h => h.elim)) | exact HSS.out _ (((Fr.drew wc).trans (Fr.alloc _ _)).mono (fun _ h => h.elim)) | exact HSS.out _ hfw | exact HSS.out _ (hfw.trans ((Fr.setCell wb ⟨q, a, none⟩ _).mono (fun _ h => .inl h))))
              clear hK K
              try simp only [Act.put, List.setIfInBounds_toArray, List.set_cons_zero, List.set_cons_succ]
              refine wpAnyH_ready (rs := [13]) (by kernel_rfl) (by simp) ?_
              refine AllReadyH.cons (o := { dst := some 48, op := Op.call { callee := Callee.builtin Builtin.append, args := #[Operand.tmp 44, Operand.tmp 47], argTypes := #[54, 54] }, type := 54, pos := "truth.go:43", after := #[{ on := 9, ground := Ground.data }, { on := 12, ground := Ground.data }], guard := none }) rfl (fun K hK => ?_) AllReadyH.nil
              (refine step_append_at _ (by rfl) _ _ _ (by rfl) W.heap.size 3 i0 _ 1 8 Try.underlying54 hi hz0 hz1 hz2 rfl (by omega) v0 r0.length (cellsK encI r0) (by rfl) (HROW0.out.alloc _) ⟨wc.heap.size, 0, none⟩ 1 1 [.int .i64 (z : Int)] (by rfl) (by rfl) (World.news_of_block (heap_alloc_new wc _)) (by simp [Value.oneCell']) (by unfold maxLen; have := HLEN0.out; omega) (by have := HLEN0.out; omega) HBs3.out ?_; intro vb wb hownb hgrowb hnilb hlocb; have hfb := Fr.grow (S := fun k => v0.ownBlock = some k) H3.out hgrowb (fun i hi => .inl hi); have hfw := hfb.mono HVM.out; have k1 := hfb.cell c0 LP.out NP.out; have kf := hfb.frozen f0 LP.out NP.out; obtain ⟨A', c', rfl, _, _⟩ := row_open encI_len hownb)
              refine hK.out _ _ ?_ (fun hHeld => ?_)
              · (first | exact HSS.out _ (Fr.refl _ _) | exact HSS.out _ ((Fr.drew wc).mono (fun _ h => h.elim)) | exact HSS.out _ ((Fr.alloc wc _).mono (fun _ h => h.elim)) | exact HSS.out _ (((Fr.alloc wc _).trans (Fr.drew _)).mono (fun _ h => h.elim)) | exact HSS.out _ (((Fr.drew wc).trans (Fr.alloc _ _)).mono (fun _ h => h.elim)) | exact HSS.out _ hfw | exact HSS.out _ (hfw.trans ((Fr.setCell wb ⟨q, a, none⟩ _).mono (fun _ h => .inl h))))
              clear hK K
              try simp only [Act.put, List.setIfInBounds_toArray, List.set_cons_zero, List.set_cons_succ]
              refine wpAnyH_take (i := 14) (oi := { dst := some 49, op := Op.indexAddr 64 (Operand.tmp 36) (Operand.tmp 38), type := 0, pos := "truth.go:43", after := #[{ on := 1, ground := Ground.data }, { on := 3, ground := Ground.data }, { on := 0, ground := Ground.phase }, { on := 1, ground := Ground.phase }, { on := 2, ground := Ground.phase }, { on := 3, ground := Ground.phase }, { on := 4, ground := Ground.phase }, { on := 5, ground := Ground.phase }, { on := 6, ground := Ground.phase }, { on := 7, ground := Ground.phase }, { on := 8, ground := Ground.phase }, { on := 9, ground := Ground.phase }, { on := 10, ground := Ground.phase }, { on := 11, ground := Ground.phase }, { on := 12, ground := Ground.phase }, { on := 13, ground := Ground.phase }], guard := none }) (v := ?_) rfl (by kernel_rfl) (by kernel_rfl) (by kernel_rfl) (fun _ _ _ h => h) (Or.inl ⟨by rfl, ?_⟩) (by assumption) ?_
              rotate_left
              · ((intro wS hSw; (try dsimp only at hSw); go_simp); try with_reducible rfl)
              try simp only [Act.put, List.setIfInBounds_toArray, List.set_cons_zero, List.set_cons_succ]
              refine wpAnyH_ready (rs := [15]) (by kernel_rfl) (by simp) ?_
              refine AllReadyH.cons (o := { dst := none, op := Op.store 54 (Operand.tmp 49) (Operand.tmp 48), type := 0, pos := "truth.go:43", after := #[{ on := 14, ground := Ground.data }, { on := 13, ground := Ground.data }, { on := 13, ground := Ground.chain }, { on := 0, ground := Ground.phase }, { on := 1, ground := Ground.phase }, { on := 2, ground := Ground.phase }, { on := 3, ground := Ground.phase }, { on := 4, ground := Ground.phase }, { on := 5, ground := Ground.phase }, { on := 6, ground := Ground.phase }, { on := 7, ground := Ground.phase }, { on := 8, ground := Ground.phase }, { on := 9, ground := Ground.phase }, { on := 10, ground := Ground.phase }, { on := 11, ground := Ground.phase }, { on := 12, ground := Ground.phase }, { on := 13, ground := Ground.phase }], guard := none }) rfl (fun K hK => ?_) AllReadyH.nil
              go_simp
              refine hK.out _ _ ?_ (fun hHeld => ?_)
              · (first | exact HSS.out _ (Fr.refl _ _) | exact HSS.out _ ((Fr.drew wc).mono (fun _ h => h.elim)) | exact HSS.out _ ((Fr.alloc wc _).mono (fun _ h => h.elim)) | exact HSS.out _ (((Fr.alloc wc _).trans (Fr.drew _)).mono (fun _ h => h.elim)) | exact HSS.out _ (((Fr.drew wc).trans (Fr.alloc _ _)).mono (fun _ h => h.elim)) | exact HSS.out _ hfw | exact HSS.out _ (hfw.trans ((Fr.setCell wb ⟨q, a, none⟩ _).mono (fun _ h => .inl h))))
              clear hK K
              try simp only [Act.put, List.setIfInBounds_toArray, List.set_cons_zero, List.set_cons_succ]
              refine wpAnyH_done (by kernel_rfl) ?_ _
              refine NoPanic.normal ?_
              have HFIN := Lib.hid (pushed (x := (z : Int)) HG21.out HV0.out HR0.out hfb hownb (loc_of hlocb H3.out.size))
              clear hownb hgrowb hnilb hlocb hfb hfw
              go_wp2
              go_meet
              exact ⟨rfl, HFIN.out⟩
            · go_simp
              refine hK.out _ _ ?_ (fun hHeld => ?_)
              · (first | exact HSS.out _ (Fr.refl _ _) | exact HSS.out _ ((Fr.drew wc).mono (fun _ h => h.elim)) | exact HSS.out _ ((Fr.alloc wc _).mono (fun _ h => h.elim)) | exact HSS.out _ (((Fr.alloc wc _).trans (Fr.drew _)).mono (fun _ h => h.elim)) | exact HSS.out _ (((Fr.drew wc).trans (Fr.alloc _ _)).mono (fun _ h => h.elim)) | exact HSS.out _ hfw | exact HSS.out _ (hfw.trans ((Fr.setCell wb ⟨q, a, none⟩ _).mono (fun _ h => .inl h))))
              clear hK K
              try simp only [Act.put, List.setIfInBounds_toArray, List.set_cons_zero, List.set_cons_succ]
              refine wpAnyH_ready (rs := [9]) (by kernel_rfl) (by simp) ?_
              refine AllReadyH.cons (o := { dst := some 44, op := Op.load 54 (Operand.tmp 43), type := 54, pos := "truth.go:43", after := #[{ on := 8, ground := Ground.data }], guard := none }) rfl (fun K hK => ?_) AllReadyH.nil
              go_simp
              refine hK.out _ _ ?_ (fun hHeld => ?_)
              · (first | exact HSS.out _ (Fr.refl _ _) | exact HSS.out _ ((Fr.drew wc).mono (fun _ h => h.elim)) | exact HSS.out _ ((Fr.alloc wc _).mono (fun _ h => h.elim)) | exact HSS.out _ (((Fr.alloc wc _).trans (Fr.drew _)).mono (fun _ h => h.elim)) | exact HSS.out _ (((Fr.drew wc).trans (Fr.alloc _ _)).mono (fun _ h => h.elim)) | exact HSS.out _ hfw | exact HSS.out _ (hfw.trans ((Fr.setCell wb ⟨q, a, none⟩ _).mono (fun _ h => .inl h))))
              clear hK K
              try simp only [Act.put, List.setIfInBounds_toArray, List.set_cons_zero, List.set_cons_succ]
              refine wpAnyH_ready (rs := [13]) (by kernel_rfl) (by simp) ?_
              refine AllReadyH.cons (o := { dst := some 48, op := Op.call { callee := Callee.builtin Builtin.append, args := #[Operand.tmp 44, Operand.tmp 47], argTypes := #[54, 54] }, type := 54, pos := "truth.go:43", after := #[{ on := 9, ground := Ground.data }, { on := 12, ground := Ground.data }], guard := none }) rfl (fun K hK => ?_) AllReadyH.nil
              (refine step_append_at _ (by rfl) _ _ _ (by rfl) W.heap.size 3 i0 _ 1 8 Try.underlying54 hi hz0 hz1 hz2 rfl (by omega) v0 r0.length (cellsK encI r0) (by rfl) (HROW0.out.alloc _) ⟨wc.heap.size, 0, none⟩ 1 1 [.int .i64 (z : Int)] (by rfl) (by rfl) (World.news_of_block (heap_alloc_new wc _)) (by simp [Value.oneCell']) (by unfold maxLen; have := HLEN0.out; omega) (by have := HLEN0.out; omega) HBs3.out ?_; intro vb wb hownb hgrowb hnilb hlocb; have hfb := Fr.grow (S := fun k => v0.ownBlock = some k) H3.out hgrowb (fun i hi => .inl hi); have hfw := hfb.mono HVM.out; have k1 := hfb.cell c0 LP.out NP.out; have kf := hfb.frozen f0 LP.out NP.out; obtain ⟨A', c', rfl, _, _⟩ := row_open encI_len hownb)
              refine hK.out _ _ ?_ (fun hHeld => ?_)
              · (first | exact HSS.out _ (Fr.refl _ _) | exact HSS.out _ ((Fr.drew wc).mono (fun _ h => h.elim)) | exact HSS.out _ ((Fr.alloc wc _).mono (fun _ h => h.elim)) | exact HSS.out _ (((Fr.alloc wc _).trans (Fr.drew _)).mono (fun _ h => h.elim)) | exact HSS.out _ (((Fr.drew wc).trans (Fr.alloc _ _)).mono (fun _ h => h.elim)) | exact HSS.out _ hfw | exact HSS.out _ (hfw.trans ((Fr.setCell wb ⟨q, a, none⟩ _).mono (fun _ h => .inl h))))
              clear hK K
              try simp only [Act.put, List.setIfInBounds_toArray, List.set_cons_zero, List.set_cons_succ]
              refine wpAnyH_take (i := 14) (oi := { dst := some 49, op := Op.indexAddr 64 (Operand.tmp 36) (Operand.tmp 38), type := 0, pos := "truth.go:43", after := #[{ on := 1, ground := Ground.data }, { on := 3, ground := Ground.data }, { on := 0, ground := Ground.phase }, { on := 1, ground := Ground.phase }, { on := 2, ground := Ground.phase }, { on := 3, ground := Ground.phase }, { on := 4, ground := Ground.phase }, { on := 5, ground := Ground.phase }, { on := 6, ground := Ground.phase }, { on := 7, ground := Ground.phase }, { on := 8, ground := Ground.phase }, { on := 9, ground := Ground.phase }, { on := 10, ground := Ground.phase }, { on := 11, ground := Ground.phase }, { on := 12, ground := Ground.phase }, { on := 13, ground := Ground.phase }], guard := none }) (v := ?_) rfl (by kernel_rfl) (by kernel_rfl) (by kernel_rfl) (fun _ _ _ h => h) (Or.inl ⟨by rfl, ?_⟩) (by assumption) ?_
              rotate_left
              · ((intro wS hSw; (try dsimp only at hSw); go_simp); try with_reducible rfl)
              try simp only [Act.put, List.setIfInBounds_toArray, List.set_cons_zero, List.set_cons_succ]
              refine wpAnyH_ready (rs := [15]) (by kernel_rfl) (by simp) ?_
              refine AllReadyH.cons (o := { dst := none, op := Op.store 54 (Operand.tmp 49) (Operand.tmp 48), type := 0, pos := "truth.go:43", after := #[{ on := 14, ground := Ground.data }, { on := 13, ground := Ground.data }, { on := 13, ground := Ground.chain }, { on := 0, ground := Ground.phase }, { on := 1, ground := Ground.phase }, { on := 2, ground := Ground.phase }, { on := 3, ground := Ground.phase }, { on := 4, ground := Ground.phase }, { on := 5, ground := Ground.phase }, { on := 6, ground := Ground.phase }, { on := 7, ground := Ground.phase }, { on := 8, ground := Ground.phase }, { on := 9, ground := Ground.phase }, { on := 10, ground := Ground.phase }, { on := 11, ground := Ground.phase }, { on := 12, ground := Ground.phase }, { on := 13, ground := Ground.phase }], guard := none }) rfl (fun K hK => ?_) AllReadyH.nil
              go_simp
              refine hK.out _ _ ?_ (fun hHeld => ?_)
              · (first | exact HSS.out _ (Fr.refl _ _) | exact HSS.out _ ((Fr.drew wc).mono (fun _ h => h.elim)) | exact HSS.out _ ((Fr.alloc wc _).mono (fun _ h => h.elim)) | exact HSS.out _ (((Fr.alloc wc _).trans (Fr.drew _)).mono (fun _ h => h.elim)) | exact HSS.out _ (((Fr.drew wc).trans (Fr.alloc _ _)).mono (fun _ h => h.elim)) | exact HSS.out _ hfw | exact HSS.out _ (hfw.trans ((Fr.setCell wb ⟨q, a, none⟩ _).mono (fun _ h => .inl h))))
              clear hK K
              try simp only [Act.put, List.setIfInBounds_toArray, List.set_cons_zero, List.set_cons_succ]
              refine wpAnyH_done (by kernel_rfl) ?_ _
              refine NoPanic.normal ?_
              have HFIN := Lib.hid (pushed (x := (z : Int)) HG21.out HV0.out HR0.out hfb hownb (loc_of hlocb H3.out.size))
              clear hownb hgrowb hnilb hlocb hfb hfw
              go_wp2
              go_meet
              exact ⟨rfl, HFIN.out⟩
          case rest =>
            obtain ⟨rfl, U6, hg6, hh6, hf6⟩ := hcut
            have NX := Lib.hid (hf6.keep HX1.out (HG21.out.other HX1.out (by decide) (by decide)))
            have NG := Lib.hid (hf6.keep HGW1.out (HG21.out.other HGW1.out (by decide) (by decide)))
            have N1 := Lib.hid (HG11.out.fr hf6 (fun j hj hk => HAP1.out j hj hk))
            have N2 := Lib.hid hg6
            have NB := Lib.hid (show Below W.heap.size W wc from HBW1.out.trans (hf6.below HBW1.out.size (fun j hj => HG21.out.ge hj)))
            have NA := Lib.hid (show ∀ j, Grid.has p V5 j → ¬ Grid.has q U6 j from fun j hu hj => by
              rcases hh6 j hj with h | h
              · exact HAP1.out j hu h
              · have := HG11.out.lt hu; omega)
            have NL := Lib.hid (show (addAt R2 a (z : Int)).length = n ∧ ∀ r ∈ addAt R2 a (z : Int), r.length ≤ 200001 from ⟨by rw [addAt_len]; exact HL2.out.1, addAt_short HL2.out.2⟩)
            clear hg6 hh6 hf6 HX1 HGW1 HG11 HG21 HBW1 HAP1 HL2 HSS HVM LP NP HR0 HV0 HROW0 HLEN0 d0 d1 b1 r0 v0 c0 f0
            have HX1 := NX
            have HGW1 := NG
            have HG11 := N1
            have HG21 := N2
            have HBW1 := NB
            have HAP1 := NA
            have HL2 := NL
            clear NX NG N1 N2 NB NA NL
            obtain ⟨R3, hR3⟩ : ∃ R, R = addAt R2 a (z : Int) := ⟨_, rfl⟩
            have HR3 := Lib.hid hR3
            rw [← hR3] at HG21 HL2
            clear hR3
            go_upto_region 7 with (fail)
            have d0 := cell_of_heap (i := 0) HGW1.out rfl
            have d1 := cell_of_heap (i := 1) HGW1.out rfl
            have b1 := cell_of_heap (i := 2) HX1.out rfl
            obtain ⟨r0, hr0⟩ : ∃ r, R3[z]? = some r := ⟨_, List.getElem?_eq_getElem (by rw [HL2.out.1]; exact HAZ.out.2)⟩
            obtain ⟨v0, hv0, hrow0, c0, f0⟩ := HG21.out.row_at hr0
            have HR0 := Lib.hid hr0
            have HV0 := Lib.hid hv0
            have HROW0 := Lib.hid hrow0
            have HLEN0 := Lib.hid (show r0.length ≤ 200001 from HL2.out.2 r0 (List.mem_of_getElem? hr0))
            have HSS := Lib.hid (show ∀ W', Fr (fun j => Grid.has q U6 j) wc W' → W'.cell? ⟨eb, 0, none⟩ = some (.int .i64 (a : Int)) ∧ W'.cell? ⟨eb, 1, none⟩ = some (.int .i64 (z : Int)) ∧ W'.cell? ⟨bx, 2, none⟩ = some (.slice (some ⟨q, 0, none⟩) n n) from
              fun W' hf => ⟨hf.cell d0 (lt_of_heap HGW1.out) (HG21.out.other HGW1.out (by decide) (by decide)), hf.cell d1 (lt_of_heap HGW1.out) (HG21.out.other HGW1.out (by decide) (by decide)), hf.cell b1 (lt_of_heap HX1.out) (HG21.out.other HX1.out (by decide) (by decide))⟩)
            clear hr0 hv0 hrow0
            have HVM := Lib.hid (show ∀ k, v0.ownBlock = some k → Grid.has q U6 k from fun k hk => .inr ⟨v0, List.mem_of_getElem? HV0.out, hk⟩)
            have LP := Lib.hid (lt_of_heap HG21.out.blk)
            have NP := Lib.hid (HG21.out.not_p (List.mem_of_getElem? HV0.out))
            have H3 := Lib.hid (show Below wc.heap.size wc ((wc.alloc (.cells #[.int .i64 (a : Int)] 3)).drew) from ((Below.refl _ _).alloc (Nat.le_refl _) _).drew)
            have HBs3 := Lib.hid (show W.heap.size ≤ ((wc.alloc (.cells #[.int .i64 (a : Int)] 3)).drew).heap.size from Nat.le_trans HBW1.out.size H3.out.size)
            have c0b : (wc.alloc (.cells #[.int .i64 (a : Int)] 3)).cell? ⟨q, z, none⟩ = some v0 := ((Fr.alloc wc _).cell c0 LP.out (fun h => h))
            refine wp_region_noPanic ?_
            refine wp_region_held_drew (S := fun W' => W'.cell? ⟨eb, 0, none⟩ = some (.int .i64 (a : Int)) ∧ W'.cell? ⟨eb, 1, none⟩ = some (.int .i64 (z : Int)) ∧ W'.cell? ⟨bx, 2, none⟩ = some (.slice (some ⟨q, 0, none⟩) n n)) (by kernel_rfl) ?_ (fun hHeld => ?_)
            · (first | exact HSS.out _ (Fr.refl _ _) | exact HSS.out _ ((Fr.drew wc).mono (fun _ h => h.elim)) | exact HSS.out _ ((Fr.alloc wc _).mono (fun _ h => h.elim)) | exact HSS.out _ (((Fr.alloc wc _).trans (Fr.drew _)).mono (fun _ h => h.elim)) | exact HSS.out _ (((Fr.drew wc).trans (Fr.alloc _ _)).mono (fun _ h => h.elim)) | exact HSS.out _ hfw | exact HSS.out _ (hfw.trans ((Fr.setCell wb ⟨q, z, none⟩ _).mono (fun _ h => .inl h))))
            refine wpAnyH_take (i := 0) (oi := { dst := some 50, op := Op.fieldAddr 66 (Operand.tmp 5) 2, type := 0, pos := "truth.go:44", after := #[], guard := none }) (v := ?_) rfl (by kernel_rfl) (by kernel_rfl) (by kernel_rfl) (fun _ _ _ h => h) (Or.inl ⟨by rfl, ?_⟩) (by assumption) ?_
            rotate_left
            · ((intro wS hSw; (try dsimp only at hSw); go_simp); try with_reducible rfl)
            try simp only [Act.put, List.setIfInBounds_toArray, List.set_cons_zero, List.set_cons_succ]
            refine wpAnyH_take (i := 1) (oi := { dst := some 51, op := Op.load 64 (Operand.tmp 50), type := 64, pos := "truth.go:44", after := #[{ on := 0, ground := Ground.data }], guard := none }) (v := ?_) rfl (by kernel_rfl) (by kernel_rfl) (by kernel_rfl) (fun _ _ _ h => h) (Or.inl ⟨by rfl, ?_⟩) (by assumption) ?_
            rotate_left
            · ((intro wS hSw; (try dsimp only at hSw); go_simp); try with_reducible rfl)
            try simp only [Act.put, List.setIfInBounds_toArray, List.set_cons_zero, List.set_cons_succ]
            refine wpAnyH_take (i := 2) (oi := { dst := some 52, op := Op.fieldAddr 27 (Operand.tmp 7) 1, type := 0, pos := "truth.go:44", after := #[], guard := none }) (v := ?_) rfl (by kernel_rfl) (by kernel_rfl) (by kernel_rfl) (fun _ _ _ h => h) (Or.inl ⟨by rfl, ?_⟩) (by assumption) ?_
            rotate_left
            · ((intro wS hSw; (try dsimp only at hSw); go_simp); try with_reducible rfl)
            try simp only [Act.put, List.setIfInBounds_toArray, List.set_cons_zero, List.set_cons_succ]
            refine wpAnyH_take (i := 3) (oi := { dst := some 53, op := Op.load 3 (Operand.tmp 52), type := 3, pos := "truth.go:44", after := #[{ on := 2, ground := Ground.data }], guard := none }) (v := ?_) rfl (by kernel_rfl) (by kernel_rfl) (by kernel_rfl) (fun _ _ _ h => h) (Or.inl ⟨by rfl, ?_⟩) (by assumption) ?_
            rotate_left
            · ((intro wS hSw; (try dsimp only at hSw); go_simp); try with_reducible rfl)
            try simp only [Act.put, List.setIfInBounds_toArray, List.set_cons_zero, List.set_cons_succ]
            refine wpAnyH_take (i := 4) (oi := { dst := some 54, op := Op.fieldAddr 66 (Operand.tmp 5) 2, type := 0, pos := "truth.go:44", after := #[], guard := none }) (v := ?_) rfl (by kernel_rfl) (by kernel_rfl) (by kernel_rfl) (fun _ _ _ h => h) (Or.inl ⟨by rfl, ?_⟩) (by assumption) ?_
            rotate_left
            · ((intro wS hSw; (try dsimp only at hSw); go_simp); try with_reducible rfl)
            try simp only [Act.put, List.setIfInBounds_toArray, List.set_cons_zero, List.set_cons_succ]
            refine wpAnyH_take (i := 5) (oi := { dst := some 55, op := Op.load 64 (Operand.tmp 54), type := 64, pos := "truth.go:44", after := #[{ on := 4, ground := Ground.data }], guard := none }) (v := ?_) rfl (by kernel_rfl) (by kernel_rfl) (by kernel_rfl) (fun _ _ _ h => h) (Or.inl ⟨by rfl, ?_⟩) (by assumption) ?_
            rotate_left
            · ((intro wS hSw; (try dsimp only at hSw); go_simp); try with_reducible rfl)
            try simp only [Act.put, List.setIfInBounds_toArray, List.set_cons_zero, List.set_cons_succ]
            refine wpAnyH_take (i := 6) (oi := { dst := some 56, op := Op.fieldAddr 27 (Operand.tmp 7) 1, type := 0, pos := "truth.go:44", after := #[], guard := none }) (v := ?_) rfl (by kernel_rfl) (by kernel_rfl) (by kernel_rfl) (fun _ _ _ h => h) (Or.inl ⟨by rfl, ?_⟩) (by assumption) ?_
            rotate_left
            · ((intro wS hSw; (try dsimp only at hSw); go_simp); try with_reducible rfl)
            try simp only [Act.put, List.setIfInBounds_toArray, List.set_cons_zero, List.set_cons_succ]
            refine wpAnyH_take (i := 7) (oi := { dst := some 57, op := Op.load 3 (Operand.tmp 56), type := 3, pos := "truth.go:44", after := #[{ on := 6, ground := Ground.data }], guard := none }) (v := ?_) rfl (by kernel_rfl) (by kernel_rfl) (by kernel_rfl) (fun _ _ _ h => h) (Or.inl ⟨by rfl, ?_⟩) (by assumption) ?_
            rotate_left
            · ((intro wS hSw; (try dsimp only at hSw); go_simp); try with_reducible rfl)
            try simp only [Act.put, List.setIfInBounds_toArray, List.set_cons_zero, List.set_cons_succ]
            refine wpAnyH_take (i := 8) (oi := { dst := some 58, op := Op.indexAddr 64 (Operand.tmp 55) (Operand.tmp 57), type := 0, pos := "truth.go:44", after := #[{ on := 5, ground := Ground.data }, { on := 7, ground := Ground.data }], guard := none }) (v := ?_) rfl (by kernel_rfl) (by kernel_rfl) (by kernel_rfl) (fun _ _ _ h => h) (Or.inl ⟨by rfl, ?_⟩) (by assumption) ?_
            rotate_left
            · ((intro wS hSw; (try dsimp only at hSw); go_simp); try with_reducible rfl)
            try simp only [Act.put, List.setIfInBounds_toArray, List.set_cons_zero, List.set_cons_succ]
            refine wpAnyH_take (i := 10) (oi := { dst := some 60, op := Op.fieldAddr 27 (Operand.tmp 7) 0, type := 0, pos := "truth.go:44", after := #[], guard := none }) (v := ?_) rfl (by kernel_rfl) (by kernel_rfl) (by kernel_rfl) (fun _ _ _ h => h) (Or.inl ⟨by rfl, ?_⟩) (by assumption) ?_
            rotate_left
            · ((intro wS hSw; (try dsimp only at hSw); go_simp); try with_reducible rfl)
            try simp only [Act.put, List.setIfInBounds_toArray, List.set_cons_zero, List.set_cons_succ]
            refine wpAnyH_take (i := 11) (oi := { dst := some 61, op := Op.load 3 (Operand.tmp 60), type := 3, pos := "truth.go:44", after := #[{ on := 10, ground := Ground.data }], guard := none }) (v := ?_) rfl (by kernel_rfl) (by kernel_rfl) (by kernel_rfl) (fun _ _ _ h => h) (Or.inl ⟨by rfl, ?_⟩) (by assumption) ?_
            rotate_left
            · ((intro wS hSw; (try dsimp only at hSw); go_simp); try with_reducible rfl)
            try simp only [Act.put, List.setIfInBounds_toArray, List.set_cons_zero, List.set_cons_succ]
            refine wpAnyH_ready (rs := [9, 12]) (by kernel_rfl) (by simp) ?_
            refine AllReadyH.cons (o := { dst := some 59, op := Op.load 54 (Operand.tmp 58), type := 54, pos := "truth.go:44", after := #[{ on := 8, ground := Ground.data }], guard := none }) rfl (fun K hK => ?_) (AllReadyH.cons (o := { dst := some 62, op := Op.buildSlice 54 1 #[(0, Operand.tmp 61)], type := 54, pos := "truth.go:44", after := #[{ on := 11, ground := Ground.data }], guard := none }) rfl (fun K hK => ?_) AllReadyH.nil)
            · go_simp
              refine hK.out _ _ ?_ (fun hHeld => ?_)
              · (first | exact HSS.out _ (Fr.refl _ _) | exact HSS.out _ ((Fr.drew wc).mono (fun _ h => h.elim)) | exact HSS.out _ ((Fr.alloc wc _).mono (fun _ h => h.elim)) | exact HSS.out _ (((Fr.alloc wc _).trans (Fr.drew _)).mono (fun _ h => h.elim)) | exact HSS.out _ (((Fr.drew wc).trans (Fr.alloc _ _)).mono (fun _ h => h.elim)) | exact HSS.out _ hfw | exact HSS.out _ (hfw.trans ((Fr.setCell wb ⟨q, z, none⟩ _).mono (fun _ h => .inl h))))
              clear hK K
              try simp only [Act.put, List.setIfInBounds_toArray, List.set_cons_zero, List.set_cons_succ]
              refine wpAnyH_ready (rs := [12]) (by kernel_rfl) (by simp) ?_
              refine AllReadyH.cons (o := { dst := some 62, op := Op.buildSlice 54 1 #[(0, Operand.tmp 61)], type := 54, pos := "truth.go:44", after := #[{ on := 11, ground := Ground.data }], guard := none }) rfl (fun K hK => ?_) AllReadyH.nil
              go_simp
              refine hK.out _ _ ?_ (fun hHeld => ?_)
              · (first | exact HSS.out _ (Fr.refl _ _) | exact HSS.out _ ((Fr.drew wc).mono (fun _ h => h.elim)) | exact HSS.out _ ((Fr.alloc wc _).mono (fun _ h => h.elim)) | exact HSS.out _ (((Fr.alloc wc _).trans (Fr.drew _)).mono (fun _ h => h.elim)) | exact HSS.out _ (((Fr.drew wc).trans (Fr.alloc _ _)).mono (fun _ h => h.elim)) | exact HSS.out _ hfw | exact HSS.out _ (hfw.trans ((Fr.setCell wb ⟨q, z, none⟩ _).mono (fun _ h => .inl h))))
              clear hK K
              try simp only [Act.put, List.setIfInBounds_toArray, List.set_cons_zero, List.set_cons_succ]
              refine wpAnyH_ready (rs := [13]) (by kernel_rfl) (by simp) ?_
              refine AllReadyH.cons (o := { dst := some 63, op := Op.call { callee := Callee.builtin Builtin.append, args := #[Operand.tmp 59, Operand.tmp 62], argTypes := #[54, 54] }, type := 54, pos := "truth.go:44", after := #[{ on := 9, ground := Ground.data }, { on := 12, ground := Ground.data }], guard := none }) rfl (fun K hK => ?_) AllReadyH.nil
              (refine step_append_at _ (by rfl) _ _ _ (by rfl) W.heap.size 3 i0 _ 1 8 Try.underlying54 hi hz0 hz1 hz2 rfl (by omega) v0 r0.length (cellsK encI r0) (by rfl) (HROW0.out.alloc _) ⟨wc.heap.size, 0, none⟩ 1 1 [.int .i64 (a : Int)] (by rfl) (by rfl) (World.news_of_block (heap_alloc_new wc _)) (by simp [Value.oneCell']) (by unfold maxLen; have := HLEN0.out; omega) (by have := HLEN0.out; omega) HBs3.out ?_; intro vb wb hownb hgrowb hnilb hlocb; have hfb := Fr.grow (S := fun k => v0.ownBlock = some k) H3.out hgrowb (fun i hi => .inl hi); have hfw := hfb.mono HVM.out; have k1 := hfb.cell c0 LP.out NP.out; have kf := hfb.frozen f0 LP.out NP.out; obtain ⟨A', c', rfl, _, _⟩ := row_open encI_len hownb)
              refine hK.out _ _ ?_ (fun hHeld => ?_)
              · (first | exact HSS.out _ (Fr.refl _ _) | exact HSS.out _ ((Fr.drew wc).mono (fun _ h => h.elim)) | exact HSS.out _ ((Fr.alloc wc _).mono (fun _ h => h.elim)) | exact HSS.out _ (((Fr.alloc wc _).trans (Fr.drew _)).mono (fun _ h => h.elim)) | exact HSS.out _ (((Fr.drew wc).trans (Fr.alloc _ _)).mono (fun _ h => h.elim)) | exact HSS.out _ hfw | exact HSS.out _ (hfw.trans ((Fr.setCell wb ⟨q, z, none⟩ _).mono (fun _ h => .inl h))))
              clear hK K
              try simp only [Act.put, List.setIfInBounds_toArray, List.set_cons_zero, List.set_cons_succ]
              refine wpAnyH_take (i := 14) (oi := { dst := some 64, op := Op.indexAddr 64 (Operand.tmp 51) (Operand.tmp 53), type := 0, pos := "truth.go:44", after := #[{ on := 1, ground := Ground.data }, { on := 3, ground := Ground.data }, { on := 0, ground := Ground.phase }, { on := 1, ground := Ground.phase }, { on := 2, ground := Ground.phase }, { on := 3, ground := Ground.phase }, { on := 4, ground := Ground.phase }, { on := 5, ground := Ground.phase }, { on := 6, ground := Ground.phase }, { on := 7, ground := Ground.phase }, { on := 8, ground := Ground.phase }, { on := 9, ground := Ground.phase }, { on := 10, ground := Ground.phase }, { on := 11, ground := Ground.phase }, { on := 12, ground := Ground.phase }, { on := 13, ground := Ground.phase }], guard := none }) (v := ?_) rfl (by kernel_rfl) (by kernel_rfl) (by kernel_rfl) (fun _ _ _ h => h) (Or.inl ⟨by rfl, ?_⟩) (by assumption) ?_
              rotate_left
              · ((intro wS hSw; (try dsimp only at hSw); go_simp); try with_reducible rfl)
              try simp only [Act.put, List.setIfInBounds_toArray, List.set_cons_zero, List.set_cons_succ]
              refine wpAnyH_ready (rs := [15]) (by kernel_rfl) (by simp) ?_
              refine AllReadyH.cons (o := { dst := none, op := Op.store 54 (Operand.tmp 64) (Operand.tmp 63), type := 0, pos := "truth.go:44", after := #[{ on := 14, ground := Ground.data }, { on := 13, ground := Ground.data }, { on := 13, ground := Ground.chain }, { on := 0, ground := Ground.phase }, { on := 1, ground := Ground.phase }, { on := 2, ground := Ground.phase }, { on := 3, ground := Ground.phase }, { on := 4, ground := Ground.phase }, { on := 5, ground := Ground.phase }, { on := 6, ground := Ground.phase }, { on := 7, ground := Ground.phase }, { on := 8, ground := Ground.phase }, { on := 9, ground := Ground.phase }, { on := 10, ground := Ground.phase }, { on := 11, ground := Ground.phase }, { on := 12, ground := Ground.phase }, { on := 13, ground := Ground.phase }], guard := none }) rfl (fun K hK => ?_) AllReadyH.nil
              go_simp
              refine hK.out _ _ ?_ (fun hHeld => ?_)
              · (first | exact HSS.out _ (Fr.refl _ _) | exact HSS.out _ ((Fr.drew wc).mono (fun _ h => h.elim)) | exact HSS.out _ ((Fr.alloc wc _).mono (fun _ h => h.elim)) | exact HSS.out _ (((Fr.alloc wc _).trans (Fr.drew _)).mono (fun _ h => h.elim)) | exact HSS.out _ (((Fr.drew wc).trans (Fr.alloc _ _)).mono (fun _ h => h.elim)) | exact HSS.out _ hfw | exact HSS.out _ (hfw.trans ((Fr.setCell wb ⟨q, z, none⟩ _).mono (fun _ h => .inl h))))
              clear hK K
              try simp only [Act.put, List.setIfInBounds_toArray, List.set_cons_zero, List.set_cons_succ]
              refine wpAnyH_done (by kernel_rfl) ?_ _
              refine NoPanic.normal ?_
              obtain ⟨wz, hwz⟩ : ∃ Z, wb.setCell ⟨q, z, none⟩ (.slice A' (r0.length + 1) c') = Z := ⟨_, rfl⟩
              have hp7 := pushed (x := (a : Int)) HG21.out HV0.out HR0.out hfb hownb (loc_of hlocb H3.out.size)
              rw [hwz] at hp7 ⊢
              clear hownb hgrowb hnilb hlocb hfb hfw
              obtain ⟨V7, hg7, hh7, hf7⟩ := hp7
              have MX := Lib.hid (hf7.keep HX1.out (HG21.out.other HX1.out (by decide) (by decide)))
              have M1 := Lib.hid (HG11.out.fr hf7 (fun j hj hk => HAP1.out j hj hk))
              have M2 := Lib.hid hg7
              have MB := Lib.hid (show Below W.heap.size W wz from HBW1.out.trans (hf7.below HBW1.out.size (fun j hj => HG21.out.ge hj)))
              have MA := Lib.hid (show ∀ j, Grid.has p V5 j → ¬ Grid.has q V7 j from fun j hu hj => by
                rcases hh7 j hj with h | h
                · exact HAP1.out j hu h
                · have := HG11.out.lt hu; omega)
              clear hg7 hh7 hf7 k1 kf hwz
              go_wp2
              go_roundw
              case rel =>
                refine ⟨k + 1, V5, V7, by omega, by go_num, MX.out, ?_, ?_, MA.out, MB.out⟩
                · rw [out_take HX2.out]
                  have := M1.out
                  rw [HR1.out] at this
                  exact this
                · rw [all_take HX2.out]
                  have := M2.out
                  rw [HR3.out, HR2.out] at this
                  exact this
              case measure => simp [intOf]; omega
            · go_simp
              refine hK.out _ _ ?_ (fun hHeld => ?_)
              · (first | exact HSS.out _ (Fr.refl _ _) | exact HSS.out _ ((Fr.drew wc).mono (fun _ h => h.elim)) | exact HSS.out _ ((Fr.alloc wc _).mono (fun _ h => h.elim)) | exact HSS.out _ (((Fr.alloc wc _).trans (Fr.drew _)).mono (fun _ h => h.elim)) | exact HSS.out _ (((Fr.drew wc).trans (Fr.alloc _ _)).mono (fun _ h => h.elim)) | exact HSS.out _ hfw | exact HSS.out _ (hfw.trans ((Fr.setCell wb ⟨q, z, none⟩ _).mono (fun _ h => .inl h))))
              clear hK K
              try simp only [Act.put, List.setIfInBounds_toArray, List.set_cons_zero, List.set_cons_succ]
              refine wpAnyH_ready (rs := [9]) (by kernel_rfl) (by simp) ?_
              refine AllReadyH.cons (o := { dst := some 59, op := Op.load 54 (Operand.tmp 58), type := 54, pos := "truth.go:44", after := #[{ on := 8, ground := Ground.data }], guard := none }) rfl (fun K hK => ?_) AllReadyH.nil
              go_simp
              refine hK.out _ _ ?_ (fun hHeld => ?_)
              · (first | exact HSS.out _ (Fr.refl _ _) | exact HSS.out _ ((Fr.drew wc).mono (fun _ h => h.elim)) | exact HSS.out _ ((Fr.alloc wc _).mono (fun _ h => h.elim)) | exact HSS.out _ (((Fr.alloc wc _).trans (Fr.drew _)).mono (fun _ h => h.elim)) | exact HSS.out _ (((Fr.drew wc).trans (Fr.alloc _ _)).mono (fun _ h => h.elim)) | exact HSS.out _ hfw | exact HSS.out _ (hfw.trans ((Fr.setCell wb ⟨q, z, none⟩ _).mono (fun _ h => .inl h))))
              clear hK K
              try simp only [Act.put, List.setIfInBounds_toArray, List.set_cons_zero, List.set_cons_succ]
              refine wpAnyH_ready (rs := [13]) (by kernel_rfl) (by simp) ?_
              refine AllReadyH.cons (o := { dst := some 63, op := Op.call { callee := Callee.builtin Builtin.append, args := #[Operand.tmp 59, Operand.tmp 62], argTypes := #[54, 54] }, type := 54, pos := "truth.go:44", after := #[{ on := 9, ground := Ground.data }, { on := 12, ground := Ground.data }], guard := none }) rfl (fun K hK => ?_) AllReadyH.nil
              (refine step_append_at _ (by rfl) _ _ _ (by rfl) W.heap.size 3 i0 _ 1 8 Try.underlying54 hi hz0 hz1 hz2 rfl (by omega) v0 r0.length (cellsK encI r0) (by rfl) (HROW0.out.alloc _) ⟨wc.heap.size, 0, none⟩ 1 1 [.int .i64 (a : Int)] (by rfl) (by rfl) (World.news_of_block (heap_alloc_new wc _)) (by simp [Value.oneCell']) (by unfold maxLen; have := HLEN0.out; omega) (by have := HLEN0.out; omega) HBs3.out ?_; intro vb wb hownb hgrowb hnilb hlocb; have hfb := Fr.grow (S := fun k => v0.ownBlock = some k) H3.out hgrowb (fun i hi => .inl hi); have hfw := hfb.mono HVM.out; have k1 := hfb.cell c0 LP.out NP.out; have kf := hfb.frozen f0 LP.out NP.out; obtain ⟨A', c', rfl, _, _⟩ := row_open encI_len hownb)
              refine hK.out _ _ ?_ (fun hHeld => ?_)
              · (first | exact HSS.out _ (Fr.refl _ _) | exact HSS.out _ ((Fr.drew wc).mono (fun _ h => h.elim)) | exact HSS.out _ ((Fr.alloc wc _).mono (fun _ h => h.elim)) | exact HSS.out _ (((Fr.alloc wc _).trans (Fr.drew _)).mono (fun _ h => h.elim)) | exact HSS.out _ (((Fr.drew wc).trans (Fr.alloc _ _)).mono (fun _ h => h.elim)) | exact HSS.out _ hfw | exact HSS.out _ (hfw.trans ((Fr.setCell wb ⟨q, z, none⟩ _).mono (fun _ h => .inl h))))
              clear hK K
              try simp only [Act.put, List.setIfInBounds_toArray, List.set_cons_zero, List.set_cons_succ]
              refine wpAnyH_take (i := 14) (oi := { dst := some 64, op := Op.indexAddr 64 (Operand.tmp 51) (Operand.tmp 53), type := 0, pos := "truth.go:44", after := #[{ on := 1, ground := Ground.data }, { on := 3, ground := Ground.data }, { on := 0, ground := Ground.phase }, { on := 1, ground := Ground.phase }, { on := 2, ground := Ground.phase }, { on := 3, ground := Ground.phase }, { on := 4, ground := Ground.phase }, { on := 5, ground := Ground.phase }, { on := 6, ground := Ground.phase }, { on := 7, ground := Ground.phase }, { on := 8, ground := Ground.phase }, { on := 9, ground := Ground.phase }, { on := 10, ground := Ground.phase }, { on := 11, ground := Ground.phase }, { on := 12, ground := Ground.phase }, { on := 13, ground := Ground.phase }], guard := none }) (v := ?_) rfl (by kernel_rfl) (by kernel_rfl) (by kernel_rfl) (fun _ _ _ h => h) (Or.inl ⟨by rfl, ?_⟩) (by assumption) ?_
              rotate_left
              · ((intro wS hSw; (try dsimp only at hSw); go_simp); try with_reducible rfl)
              try simp only [Act.put, List.setIfInBounds_toArray, List.set_cons_zero, List.set_cons_succ]
              refine wpAnyH_ready (rs := [15]) (by kernel_rfl) (by simp) ?_
              refine AllReadyH.cons (o := { dst := none, op := Op.store 54 (Operand.tmp 64) (Operand.tmp 63), type := 0, pos := "truth.go:44", after := #[{ on := 14, ground := Ground.data }, { on := 13, ground := Ground.data }, { on := 13, ground := Ground.chain }, { on := 0, ground := Ground.phase }, { on := 1, ground := Ground.phase }, { on := 2, ground := Ground.phase }, { on := 3, ground := Ground.phase }, { on := 4, ground := Ground.phase }, { on := 5, ground := Ground.phase }, { on := 6, ground := Ground.phase }, { on := 7, ground := Ground.phase }, { on := 8, ground := Ground.phase }, { on := 9, ground := Ground.phase }, { on := 10, ground := Ground.phase }, { on := 11, ground := Ground.phase }, { on := 12, ground := Ground.phase }, { on := 13, ground := Ground.phase }], guard := none }) rfl (fun K hK => ?_) AllReadyH.nil
              go_simp
              refine hK.out _ _ ?_ (fun hHeld => ?_)
              · (first | exact HSS.out _ (Fr.refl _ _) | exact HSS.out _ ((Fr.drew wc).mono (fun _ h => h.elim)) | exact HSS.out _ ((Fr.alloc wc _).mono (fun _ h => h.elim)) | exact HSS.out _ (((Fr.alloc wc _).trans (Fr.drew _)).mono (fun _ h => h.elim)) | exact HSS.out _ (((Fr.drew wc).trans (Fr.alloc _ _)).mono (fun _ h => h.elim)) | exact HSS.out _ hfw | exact HSS.out _ (hfw.trans ((Fr.setCell wb ⟨q, z, none⟩ _).mono (fun _ h => .inl h))))
              clear hK K
              try simp only [Act.put, List.setIfInBounds_toArray, List.set_cons_zero, List.set_cons_succ]
              refine wpAnyH_done (by kernel_rfl) ?_ _
              refine NoPanic.normal ?_
              obtain ⟨wz, hwz⟩ : ∃ Z, wb.setCell ⟨q, z, none⟩ (.slice A' (r0.length + 1) c') = Z := ⟨_, rfl⟩
              have hp7 := pushed (x := (a : Int)) HG21.out HV0.out HR0.out hfb hownb (loc_of hlocb H3.out.size)
              rw [hwz] at hp7 ⊢
              clear hownb hgrowb hnilb hlocb hfb hfw
              obtain ⟨V7, hg7, hh7, hf7⟩ := hp7
              have MX := Lib.hid (hf7.keep HX1.out (HG21.out.other HX1.out (by decide) (by decide)))
              have M1 := Lib.hid (HG11.out.fr hf7 (fun j hj hk => HAP1.out j hj hk))
              have M2 := Lib.hid hg7
              have MB := Lib.hid (show Below W.heap.size W wz from HBW1.out.trans (hf7.below HBW1.out.size (fun j hj => HG21.out.ge hj)))
              have MA := Lib.hid (show ∀ j, Grid.has p V5 j → ¬ Grid.has q V7 j from fun j hu hj => by
                rcases hh7 j hj with h | h
                · exact HAP1.out j hu h
                · have := HG11.out.lt hu; omega)
              clear hg7 hh7 hf7 k1 kf hwz
              go_wp2
              go_roundw
              case rel =>
                refine ⟨k + 1, V5, V7, by omega, by go_num, MX.out, ?_, ?_, MA.out, MB.out⟩
                · rw [out_take HX2.out]
                  have := M1.out
                  rw [HR1.out] at this
                  exact this
                · rw [all_take HX2.out]
                  have := M2.out
                  rw [HR3.out, HR2.out] at this
                  exact this
              case measure => simp [intOf]; omega
      · obtain rfl : k = L.length := by omega
        rw [List.take_length] at g1 g2
        have c0 := cell_of_heap (i := 0) hbx rfl
        have c1 := cell_of_heap (i := 1) hbx rfl
        have c2 := cell_of_heap (i := 2) hbx rfl
        have hrc := (hb.block w.heap.size (by have := HSW.out; omega)).trans HGW.out
        have r0 := cell_of_heap (i := 0) hrc rfl
        have r1 := cell_of_heap (i := 1) hrc rfl
        have r2 := cell_of_heap (i := 2) hrc rfl
        have s0 := free_of_heap (i := 0) hrc (by simp)
        have s1 := free_of_heap (i := 1) hrc (by simp)
        have s2 := free_of_heap (i := 2) hrc (by simp)
        have HRC := Lib.hid hrc
        have GA := Lib.hid g1
        have GB := Lib.hid g2
        clear hbx g1 g2 hap hb hrc
        go_wp2
        obtain ⟨WF, hWF⟩ : ∃ V, ((wr.setCell ⟨w.heap.size, 0, none⟩ (.int .i64 (n : Int))).setCell ⟨w.heap.size, 1, none⟩ (.slice (some ⟨p, 0, none⟩) n n)).setCell ⟨w.heap.size, 2, none⟩ (.slice (some ⟨q, 0, none⟩) n n) = V := ⟨_, rfl⟩
        rw [hWF]
        have hz : WF.heap[w.heap.size]? = some (.cells #[.int .i64 (n : Int), .slice (some ⟨p, 0, none⟩) n n, .slice (some ⟨q, 0, none⟩) n n] 66 (0, 0)) := by
          rw [← hWF, heap_setCell_at (heap_setCell_at (heap_setCell_at HRC.out _) _)]
          rfl
        have hfz : Fr (fun k => k = w.heap.size) wr WF := by
          rw [← hWF]
          exact ((Fr.setCell wr ⟨w.heap.size, 0, none⟩ _).trans (Fr.setCell _ ⟨w.heap.size, 1, none⟩ _)).trans (Fr.setCell _ ⟨w.heap.size, 2, none⟩ _)
        have z0 := cell_of_heap (i := 0) hz rfl
        have z1 := cell_of_heap (i := 1) hz rfl
        have z2 := cell_of_heap (i := 2) hz rfl
        have hge : ∀ k, W.heap.size ≤ k → ¬ k = w.heap.size := fun k h e => by have := HSW.out; omega
        have hGA := (GA.out.fr hfz (fun k hk => hge k (GA.out.ge hk))).base HBW.out.size
        have hGB := (GB.out.fr hfz (fun k hk => hge k (GB.out.ge hk))).base HBW.out.size
        have hbf : Below w.heap.size w WF := (HBW.out.trans (HB.out.mono HBW.out.size)).trans (hfz.below (HBW.out.trans (HB.out.mono HBW.out.size)).size (fun i e => by have e' : i = w.heap.size := e; omega))
        have HFIN := Lib.hid (And.intro hGA (And.intro hGB hbf))
        clear hWF hz hfz hge hGA hGB hbf
        exact bodyPost_ret (v := .agg #[.int .i64 (n : Int), .slice (some ⟨p, 0, none⟩) n n, .slice (some ⟨q, 0, none⟩) n n]) (by simp [results, Try.results30, go_sem, z0, z1, z2]) rfl ⟨p, q, V, U, rfl, HFIN.out⟩
end Go.Proofs.Ytpmgkmodpneiiaa.E
