/- shards: Make walked. Conditions: those that each theorem names. -/
import Derived.Test.YtdlmkdldmiiaiaaGrd
namespace Go.Proofs.Ytdlmkdldmiiaiaa.E
open Go.RowKit Go.Sort Go.Shelf
open Go.Proofs.Ytdlmkdldmiiaiaa.Ma Go.Proofs.Ytdlmkdldmiiaiaa.By Go.Proofs.Ytdlmkdldmiiaiaa.Enc
set_option linter.unusedVariables false
set_option linter.unusedSimpArgs false
abbrev Ed := Int × Int
abbrev enc2 (x : Ed) : List Value := [.int .i64 x.1, .int .i64 x.2]
theorem enc2_len (x : Ed) : (enc2 x).length = 2 := rfl
def rowsOf (E : List Ed) (v : Int) : List Int := (E.filter fun x => decide (x.1 = v)).map (·.2)
/-- Where the edges of so many vertices lead, as they come. -/
def gridOf (lo : Int) (n : Nat) (E : List Ed) : List (List Int) := (List.range n).map fun j : Nat => rowsOf E (lo + (j : Int))
theorem rows_take {E : List Ed} {k : Nat} {x : Ed} (h : E[k]? = some x) (v : Int) : rowsOf (E.take (k + 1)) v = rowsOf (E.take k) v ++ (if x.1 = v then [x.2] else []) := by
  unfold rowsOf
  rw [List.take_add_one, h, List.filter_append, List.map_append]
  congr 1
  by_cases hv : x.1 = v
  · simp [hv]
  · simp [hv]
theorem grid_len (lo : Int) (n : Nat) (E : List Ed) : (gridOf lo n E).length = n := by unfold gridOf; simp
theorem grid_at {lo : Int} {n j : Nat} {E : List Ed} (hj : j < n) : (gridOf lo n E)[j]? = some (rowsOf E (lo + (j : Int))) := by
  unfold gridOf
  rw [List.getElem?_map, List.getElem?_range hj]
  rfl
theorem grid_out {lo : Int} {n k : Nat} {E : List Ed} {x : Ed} (h : E[k]? = some x) (hx : ¬ (lo ≤ x.1 ∧ x.1 < lo + (n : Int))) : gridOf lo n (E.take (k + 1)) = gridOf lo n (E.take k) := by
  unfold gridOf
  apply List.map_congr_left
  intro j hj
  rw [rows_take h, if_neg (by have := List.mem_range.1 hj; omega), List.append_nil]
theorem grid_in {lo : Int} {n k a : Nat} {E : List Ed} {x : Ed} (h : E[k]? = some x) (ha : x.1 = lo + (a : Int)) (hn : a < n) : gridOf lo n (E.take (k + 1)) = (gridOf lo n (E.take k)).set a (rowsOf (E.take k) (lo + (a : Int)) ++ [x.2]) := by
  apply List.ext_getElem?
  intro j
  by_cases hj : j < n
  · rw [grid_at hj, rows_take h]
    by_cases hja : j = a
    · subst hja
      rw [if_pos ha, List.getElem?_set_self (by rw [grid_len]; exact hj)]
    · rw [if_neg (by omega), List.append_nil, List.getElem?_set_ne (fun e => hja e.symm), grid_at hj]
  · rw [List.getElem?_eq_none (by rw [grid_len]; omega), List.getElem?_eq_none (by rw [List.length_set, grid_len]; omega)]
theorem rows_short (E : List Ed) (v : Int) : (rowsOf E v).length ≤ E.length := by
  unfold rowsOf
  rw [List.length_map]
  exact List.length_filter_le _ _
def mkO (lo : Int) (n : Nat) (E : List Ed) : List (List Int) := (gridOf lo n E).map fun r => Lib.compact (srtI r)
def midO (lo : Int) (n : Nat) (E : List Ed) (k : Nat) : List (List Int) := (List.range n).map fun j : Nat => if j < k then Lib.compact (srtI (rowsOf E (lo + (j : Int)))) else rowsOf E (lo + (j : Int))
theorem mid_at {lo : Int} {n j k : Nat} {E : List Ed} (hj : j < n) : (midO lo n E k)[j]? = some (if j < k then Lib.compact (srtI (rowsOf E (lo + (j : Int)))) else rowsOf E (lo + (j : Int))) := by
  unfold midO
  rw [List.getElem?_map, List.getElem?_range hj]
  rfl
theorem mid_len (lo : Int) (n k : Nat) (E : List Ed) : (midO lo n E k).length = n := by unfold midO; simp
theorem mid_zero (lo : Int) (n : Nat) (E : List Ed) : midO lo n E 0 = gridOf lo n E := by
  unfold midO gridOf
  apply List.map_congr_left
  intro j _
  rw [if_neg (by omega)]
theorem mid_all (lo : Int) (n : Nat) (E : List Ed) : midO lo n E n = mkO lo n E := by
  unfold midO mkO gridOf
  rw [List.map_map]
  apply List.map_congr_left
  intro j hj
  rw [if_pos (List.mem_range.1 hj)]
  rfl
theorem mid_step (lo : Int) (n : Nat) (E : List Ed) {k : Nat} (hk : k < n) : midO lo n E (k + 1) = (midO lo n E k).set k (Lib.compact (srtI (rowsOf E (lo + (k : Int))))) := by
  apply List.ext_getElem?
  intro j
  by_cases hj : j < n
  · rw [mid_at hj]
    by_cases hjk : j = k
    · subst hjk
      rw [if_pos (by omega), List.getElem?_set_self (by rw [mid_len]; exact hj)]
    · rw [List.getElem?_set_ne (fun e => hjk e.symm), mid_at hj]
      by_cases h : j < k
      · rw [if_pos h, if_pos (by omega)]
      · rw [if_neg h, if_neg (by omega)]
  · rw [List.getElem?_eq_none (by rw [mid_len]; omega), List.getElem?_eq_none (by rw [List.length_set, mid_len]; omega)]
theorem mk_len (lo : Int) (n : Nat) (E : List Ed) : (mkO lo n E).length = n := by unfold mkO; rw [List.length_map, grid_len]
/-- The shard of some edges, of a part. -/
def mkS (lo hi : Int) (E : List Ed) : Int × Int × List (List Int) := if mayC lo hi then (lo, hi, mkO lo (hi - lo).toNat E) else (0, 0, [])
theorem make_r (n : Nat) (h : n ≤ 1000) (w : World) : (Instr.makeSlice 26 (.int .i64 (n : Int)) (.int .i64 (n : Int))).run Try.prog w = .ok (.slice (some ⟨w.heap.size, 0, none⟩) n n) (w.alloc (.cells (Array.replicate n (Value.slice none 0 0)) 62 (0, 0))) := by
  obtain ⟨i0, hi, hz0, hz1, hz2⟩ := info_parts info62
  have hr := run_makeSlice (P := Try.prog) w 26 62 i0 _ Try.underlying26 hi hz0 .i64 .i64 (n : Int) (n : Int) (by omega) (by omega) (by rw [hz1]; omega) (by rw [hz2]; omega) (by omega)
  rw [hr]
  have e : madeCells (Value.slice none 0 0).cells ((n : Int).toNat * i0.size) = (Array.replicate n (Value.slice none 0 0)) := by
    apply Array.ext'
    rw [show (Value.slice none 0 0).cells = #[Value.slice none 0 0] from rfl, toList_madeCells_one, hz1]
    simp
  rw [e]
  simp
theorem grid_new (B p n : Nat) (lo : Int) (w : World) (h : w.heap[p]? = some (.cells (Array.replicate n (Value.slice none 0 0)) 62 (0, 0))) (hB : B ≤ p) : Grid B w p (List.replicate n (.slice none 0 0)) (gridOf lo n []) := by
  refine ⟨by rw [h, List.toArray_replicate], by rw [List.length_replicate, grid_len], fun i v r hv hr => ?_, fun i j v u g hij hv hu hg => ?_, hB⟩
  · have hi := (List.getElem?_eq_some_iff.1 hv).1
    rw [List.length_replicate] at hi
    rw [List.getElem?_replicate, if_pos hi] at hv
    cases hv
    rw [grid_at hi] at hr
    cases hr
    exact World.ownsRow_nil _ _ _ _
  · have hi := (List.getElem?_eq_some_iff.1 hv).1
    rw [List.length_replicate] at hi
    rw [List.getElem?_replicate, if_pos hi] at hv
    cases hv
    cases hg
/-- One number more onto a row of the call's own, in a region that draws. -/
theorem step_appI {w : World} {ops : Array Oper} {o : Oper} {a : Act} {K : Act → World → Prop} {Q : Exit → Act → World → Prop} {E : Prop} (hgd : o.guard = none) (s x : Operand) (ho : o.op = .call { callee := .builtin .append, args := #[s, x], argTypes := #[62, 62] })
    (B : Nat) (L : List Int) (y : Int) (v : Value) (hs : a.eval s = v) (hown : w.ownsRow B 3 1 v L.length (cellsK encI L))
    (b : Nat) (hx : a.eval x = .slice (some ⟨b, 0, none⟩) 1 1) (hb : w.heap[b]? = some (.cells #[.int .i64 y] 3 (0, 0))) (hlen : L.length ≤ 1000000) (hB : B ≤ w.heap.size)
    (h : ∀ A' c' w', w'.ownsRow B 3 1 (.slice A' (L ++ [y]).length c') (L ++ [y]).length (cellsK encI (L ++ [y])) → (Fr (fun k => v.ownBlock = some k) w w' ∧ ∀ g, (Value.slice A' (L ++ [y]).length c').ownBlock = some g → v.ownBlock = some g ∨ w.heap.size ≤ g) → K (a.put o.dst (.slice A' (L ++ [y]).length c')) w') :
    if Region.wanted o (yielded ops a.tmps) = true then Oper.wp Try.prog o a w K Q else E := by
  have hw : Region.wanted o (yielded ops a.tmps) = true := by simp [Region.wanted, hgd]
  rw [if_pos hw]
  obtain ⟨i0, hi, hz0, hz1, hz2⟩ := info_parts info3
  obtain ⟨v', w', hr, h2, h3, h4, h5⟩ := run_append_own_at (P := Try.prog) w B 62 o.type 3 i0 _ 1 8 Try.underlying62 hi hz0 hz1 hz2 rfl (by decide) v L.length (cellsK encI L) hown ⟨b, 0, none⟩ 1 1 [.int .i64 y] rfl (World.news_of_block hb) (by simp [Value.oneCell']) (by unfold maxLen; omega) (by omega) hB
  unfold Oper.wp execOp
  simp only [ho, resolve, invoke, builtin, Sem.run_bind, Sem.run_pure, Result.andThen_ok, List.map_toArray, List.map_cons, List.map_nil, hs, hx, hr]
  have h2' : w'.ownsRow B 3 1 v' (L ++ [y]).length (cellsK encI (L ++ [y])) := by rw [cellsK_append, cellsK_one, List.length_append]; exact h2
  obtain ⟨A', c', rfl, _, _⟩ := row_open encI_len h2'
  refine h A' c' w' h2' ⟨Fr.of_grownR h3, fun g hg => ?_⟩
  rcases h5 with e | e
  · exact .inl (e ▸ hg)
  · rw [hg] at e
    cases e
    exact .inr (Nat.le_refl _)
/-- A row of the grid's is longer by one. -/
def Pushed (B : Nat) (w1 wx : World) (p : Nat) (V : List Value) (R : List (List Int)) (i : Nat) (r : List Int) : Prop :=
  ∃ V', Grid B wx p V' (R.set i r) ∧ (∀ j, Grid.has p V' j → Grid.has p V j ∨ w1.heap.size ≤ j) ∧ Fr (fun j => Grid.has p V j) w1 wx
theorem pushed {B p i : Nat} {w1 wb : World} {V : List Value} {R : List (List Int)} {v0 vb : Value} {r r' : List Int} (h : Grid B w1 p V R) (hv : V[i]? = some v0) (hr : R[i]? = some r) (hf : Fr (fun k => v0.ownBlock = some k) w1 wb)
    (hrow : wb.ownsRow B 3 1 vb r'.length (cellsK encI r')) (hloc : ∀ g, vb.ownBlock = some g → v0.ownBlock = some g ∨ w1.heap.size ≤ g) : Pushed B w1 (wb.setCell ⟨p, i, none⟩ vb) p V R i r' := by
  obtain ⟨h1, h2⟩ := h.push hv hr hf hrow hloc
  refine ⟨V.set i vb, h1, fun j hj => ?_, h2⟩
  rcases hj with e | ⟨v, hv2, hg⟩
  · exact .inl (.inl e)
  · rcases List.mem_or_eq_of_mem_set hv2 with h3 | rfl
    · exact .inl (.inr ⟨v, h3, hg⟩)
    · rcases hloc j hg with h4 | h4
      · exact .inl (.inr ⟨v0, List.mem_of_getElem? hv, h4⟩)
      · exact .inr h4
/-- A block of another kind is none of the grid's. -/
theorem Grid.other {B p k : Nat} {w : World} {V : List Value} {R : List (List Int)} {cs : Array Value} {T : TypeId} (h : Grid B w p V R) (hk : w.heap[k]? = some (.cells cs T (0, 0))) (h1 : T ≠ 62) (h2 : T ≠ 3) : ¬ Grid.has p V k := by
  rintro (rfl | ⟨v, hv, hg⟩)
  · rw [h.blk] at hk
    cases hk
    exact h1 rfl
  · obtain ⟨i, hi, rfl⟩ := List.mem_iff_getElem.1 hv
    obtain ⟨r, hr⟩ : ∃ r, R[i]? = some r := ⟨_, List.getElem?_eq_getElem (by rw [← h.len]; exact hi)⟩
    obtain ⟨cs', fz, hc⟩ := row_kind (h.rows i _ r (List.getElem?_eq_getElem hi) hr) k hg
    rw [hk] at hc
    cases hc
    exact h2 rfl
theorem Grid.least {B p k : Nat} {w : World} {V : List Value} {R : List (List Int)} (h : Grid B w p V R) (hk : Grid.has p V k) : B ≤ k := by
  rcases hk with rfl | ⟨v, hv, hg⟩
  · exact h.at_
  · obtain ⟨i, hi, rfl⟩ := List.mem_iff_getElem.1 hv
    obtain ⟨r, hr⟩ : ∃ r, R[i]? = some r := ⟨_, List.getElem?_eq_getElem (by rw [← h.len]; exact hi)⟩
    exact ((h.rows i _ r (List.getElem?_eq_getElem hi) hr).lt k hg).1
theorem Grid.liesR {B p : Nat} {w : World} {V : List Value} {R : List (List Int)} (h : Grid B w p V R) : LiesR w (some ⟨p, 0, none⟩) R := fun j L hL => by
  obtain ⟨v, hv, hrow, c0, _⟩ := h.row_at hL
  obtain ⟨A2, c2, rfl, k1, k2⟩ := row_open encI_len hrow
  exact ⟨p, 0, rfl, lt_of_heap h.blk, A2, c2, by rw [Nat.zero_add]; exact c0, k1, k2, row_lies encI_len hrow⟩
theorem lies2 {w : World} {A : Option Addr} {L : List Ed} (h : Lies enc2 2 w A L) {j : Nat} {x : Ed} (hx : L[j]? = some x) : ∃ g o, A = some ⟨g, o, none⟩ ∧ g < w.heap.size ∧ w.cell? ⟨g, o + j * 2, none⟩ = some (.int .i64 x.1) ∧ w.cell? ⟨g, o + j * 2 + 1, none⟩ = some (.int .i64 x.2) := by
  obtain ⟨g, o, e, hg, hc⟩ := h j x hx
  exact ⟨g, o, e, hg, hc 0 _ rfl, hc 1 _ rfl⟩
/-- The rows lie readable, and in no block below B, so that what is written there leaves them. -/
def LiesN (B : Nat) (w : World) (A : Option Addr) (O : List (List Int)) : Prop := ∀ (S : Nat → Prop) (w' : World), Fr S w w' → (∀ k, S k → k < B) → LiesR w' A O
theorem LiesN.lies {B : Nat} {w : World} {A : Option Addr} {O : List (List Int)} (h : LiesN B w A O) : LiesR w A O := h (fun _ => False) w (Fr.refl _ _) (fun _ e => e.elim)
theorem Grid.liesN {B p : Nat} {w : World} {V : List Value} {R : List (List Int)} (h : Grid B w p V R) {C : Nat} (hC : C ≤ B) : LiesN C w (some ⟨p, 0, none⟩) R := fun S w' hf hS =>
  (h.fr hf (fun k hk hs => by have h1 := h.least hk; have h2 := hS k hs; omega)).liesR
set_option maxRecDepth 100000 in
set_option maxHeartbeats 4000000 in
theorem make_new (Ae : Option Addr) (ce : Nat) (E : List Ed) (lo hi : Int) (w : World) (hE : Lies enc2 2 w Ae E) (hl : E.length ≤ 100000) :
    Calls Try.prog 11 #[.slice Ae E.length ce, partV lo hi] w fun e w' => ∃ A c, e = .returned (shV (mkS lo hi E).1 (mkS lo hi E).2.1 A (mkS lo hi E).2.2.length c) ∧ LiesN w.heap.size w' A (mkS lo hi E).2.2 ∧ ((mkS lo hi E).2.2.length ≤ c ∧ c ≤ 9223372036854775807) ∧ Below w.heap.size w w' := by
  unfold mkS shV partV
  obtain ⟨W0, hW0, gW0, bW0, sW0⟩ := box_new w (.cells #[.int .i64 lo, .int .i64 hi] 24 (0, 0))
  obtain ⟨W1, hW1, gW1, bW1, sW1⟩ := box_new W0 (.cells #[.int .i64 0, .int .i64 0, .slice none 0 0] 28 (0, 0))
  obtain ⟨Z, hZ⟩ : ∃ Z, W0.heap.size = Z := ⟨_, rfl⟩
  rw [hZ] at gW1 sW1
  have HB1 := Lib.hid (show Below w.heap.size w W1 from bW0.trans (bW1.mono bW0.size))
  have HP := Lib.hid (show Box2 W1 w.heap.size lo hi from (Fr.of_below bW1).keep gW0 (fun e => e))
  have HZ := Lib.hid (show Box3 W1 Z 0 0 (.slice none 0 0) from gW1)
  have HSZ := Lib.hid (show Z = w.heap.size + 1 ∧ W1.heap.size = Z + 1 from ⟨by omega, sW1⟩)
  have HM := Lib.hid (fun V => may_at lo hi V)
  unfold partV at HM
  have p0 := cell_of_heap (i := 0) (v := .int .i64 lo) HP.out rfl
  have p1 := cell_of_heap (i := 1) (v := .int .i64 hi) HP.out rfl
  cases hmay : mayC lo hi with
  | false =>
    rw [hmay] at HM
    simp only [if_false, Bool.false_eq_true]
    clear hE hl hmay gW0 bW0 sW0 gW1 bW1 sW1
    go_enter Try.func11, Try.ntmps11
    go_upto_region 2 with (go_at_call 29; refine (HM.out _).mono ?_; rintro e w2 ⟨rfl, hb2⟩; have HB2 := Lib.hid hb2; clear hb2)
    have Z2 := Lib.hid ((Fr.of_below HB2.out).keep HZ.out (fun e => e))
    have B2 := Lib.hid (HB1.out.trans (HB2.out.mono HB1.out.size))
    obtain ⟨z0, z1, z2, y0, y1, y2⟩ := Box3.cells Z2.out
    go_wp2
    obtain ⟨w11, hw11⟩ : ∃ V, ((w2.setCell ⟨Z, 0, none⟩ (.int .i64 0)).setCell ⟨Z, 1, none⟩ (.int .i64 0)).setCell ⟨Z, 2, none⟩ (.slice none 0 0) = V := ⟨_, rfl⟩
    have q := set_box3 Z2.out 0 0 (.slice none 0 0)
    rw [hw11] at q ⊢
    obtain ⟨r0, r1, r2, _, _, _⟩ := Box3.cells q.1
    have Q := Lib.hid (B2.out.trans (q.2.below (B := w.heap.size) (by have := B2.out.size; omega) (fun k e => by have e' : k = Z := e; have := HSZ.out.1; omega)))
    clear hw11 q z0 z1 z2 y0 y1 y2
    exact bodyPost_ret (v := .agg #[.int .i64 0, .int .i64 0, .slice none 0 0]) (by simp [results, Try.results11, go_sem, r0, r1, r2]) rfl ⟨none, 0, rfl, fun _ _ _ _ j L hL => by simp at hL, ⟨by simp, by omega⟩, Q.out⟩
  | true =>
    rw [hmay] at HM
    simp only [if_true]
    obtain ⟨m0, m1, m2⟩ := mayC_in hmay
    obtain ⟨n, hn⟩ : ∃ n : Nat, hi - lo = (n : Int) := ⟨(hi - lo).toNat, by omega⟩
    rw [hn, Int.toNat_natCast]
    have HE := Lib.hid (fun V (hb : Below w.heap.size w V) => hE.below hb (Nat.le_refl _))
    have HL := Lib.hid hl
    have HHN := Lib.hid (show hi = lo + (n : Int) ∧ n ≤ 256 by omega)
    have k1 : IntKind.i64.wrap (hi - lo) = (n : Int) := by rw [hn]; exact IntWalk.i64_in _ ⟨by omega, by omega⟩
    have hmk := fun V => make_r n (by omega) V
    have i1 : (n : Int) ≤ 256 := by omega
    have HKN := Lib.hid hn
    have i2 : 0 ≤ lo := m0
    have i3 : lo ≤ 256 := by omega
    have i4 : hi ≤ 256 := m2
    have i5 : 0 ≤ hi := by omega
    clear hE hl hmay gW0 bW0 sW0 gW1 bW1 sW1 m0 m1 m2 hn
    go_enter Try.func11, Try.ntmps11
    go_upto_region 3 with (go_at_call 29; refine (HM.out _).mono ?_; rintro e w2 ⟨rfl, hb2⟩; have HB2 := Lib.hid hb2; clear hb2)
    have P2 := Lib.hid ((Fr.of_below HB2.out).keep HP.out (fun e => e))
    have Z2 := Lib.hid ((Fr.of_below HB2.out).keep HZ.out (fun e => e))
    clear p0 p1 hW0 hW1
    have p0 := cell_of_heap (i := 0) (v := .int .i64 lo) P2.out rfl
    have p1 := cell_of_heap (i := 1) (v := .int .i64 hi) P2.out rfl
    go_cut [5] from 5 to 21 (fun p wx => ∃ S G, p = .pointer (some ⟨S, 0, none⟩) ∧ Box3 wx S lo hi (.slice (some ⟨G, 0, none⟩) n n) ∧ wx.heap[G]? = some (.cells (Array.replicate n (Value.slice none 0 0)) 62 (0, 0)) ∧ w2.heap.size ≤ S ∧ w2.heap.size ≤ G ∧ Below w2.heap.size w2 wx)
    case first =>
      obtain ⟨V1, hV1, gV1, bV1, sV1⟩ := box_new w2.drew (.cells #[.int .i64 0, .int .i64 0, .slice none 0 0] 28 (0, 0))
      obtain ⟨V2, hV2, gV2, bV2, sV2⟩ := box_new V1 (.cells (Array.replicate n (Value.slice none 0 0)) 62 (0, 0))
      have BV2 := Lib.hid (show Below w2.heap.size w2 V2 from ((Below.refl _ w2).drew.trans bV1).trans (bV2.mono bV1.size))
      have GV2 := Lib.hid (show Box3 V2 w2.heap.size 0 0 (.slice none 0 0) from (Fr.of_below bV2).keep gV1 (fun e => e))
      have GR2 := Lib.hid (And.intro gV2 (show w2.heap.size ≤ V1.heap.size from bV1.size))
      have HKP := Lib.hid (show ∀ V, Below w2.heap.size w2 V → V.cell? ⟨w.heap.size, 0, none⟩ = some (.int .i64 lo) ∧ V.cell? ⟨w.heap.size, 1, none⟩ = some (.int .i64 hi) from fun V hV => ⟨(hV.cell (p := ⟨w.heap.size, 0, none⟩) (lt_of_heap P2.out)).trans p0, (hV.cell (p := ⟨w.heap.size, 1, none⟩) (lt_of_heap P2.out)).trans p1⟩)
      obtain ⟨v0, v1, v2, x0, x1, x2⟩ := Box3.cells GV2.out
      have HV1S := Lib.hid (show V1.heap.size = w2.heap.size + 1 from sV1)
      clear gV1 bV1 sV1 gV2 bV2 sV2
      go_region_held3 (fun V => V.cell? ⟨w.heap.size, 0, none⟩ = some (.int .i64 lo) ∧ V.cell? ⟨w.heap.size, 1, none⟩ = some (.int .i64 hi))
        (first
          | exact HKP.out _ BV2.out
          | exact HKP.out _ ((Below.refl _ w2).drew)
          | exact HKP.out _ (((Below.refl _ w2).drew).alloc (Nat.le_refl _) _)
          | (rw [← hV1]; exact HKP.out _ (((Below.refl _ w2).drew).alloc (Nat.le_refl _) _))
          | exact HKP.out _ ((((Below.refl _ w2).drew).alloc (Nat.le_refl _) _).alloc (by simp) _)
          | exact HKP.out _ (((BV2.out.setCell (Nat.le_refl _) _).setCell (Nat.le_refl _) _).setCell (Nat.le_refl _) _))
        (fail)
      · have q := box_new w2 (.cells (Array.replicate n (Value.slice none 0 0)) 62 (0, 0))
        obtain ⟨V3, h3, g3, b3, s3⟩ := q
        rw [h3]
        obtain ⟨V4, h4, g4, b4, s4⟩ := box_new V3 (.cells #[.int .i64 lo, .int .i64 hi, .slice (some ⟨w2.heap.size, 0, none⟩) n n] 28 (0, 0))
        rw [h4]
        have Q := Lib.hid (show Box3 V4.drew V3.heap.size lo hi (.slice (some ⟨w2.heap.size, 0, none⟩) n n) ∧ V4.drew.heap[w2.heap.size]? = some (.cells (Array.replicate n (Value.slice none 0 0)) 62 (0, 0)) ∧ w2.heap.size ≤ V3.heap.size ∧ Below w2.heap.size w2 V4.drew from ⟨g4, (Fr.of_below b4).keep g3 (fun e => e), b3.size, (b3.trans (b4.mono b3.size)).drew⟩)
        have s3' := s3
        clear h3 g3 b3 h4 g4 b4 s4 s3
        go_wp2
        go_meet
        exact ⟨_, _, rfl, by rw [← s3']; exact Q.out.1, Q.out.2.1, by omega, Nat.le_refl _, Q.out.2.2.2⟩
      · have q := set_box3 GV2.out lo hi (.slice (some ⟨V1.heap.size, 0, none⟩) n n)
        have Q := Lib.hid (And.intro q.1 (And.intro (q.2.keep GR2.out.1 (fun e => by have := HV1S.out; have e' : V1.heap.size = w2.heap.size := e; omega)) (BV2.out.trans (q.2.below (B := w2.heap.size) BV2.out.size (fun k e => by rw [e]; exact Nat.le_refl _)))))
        clear q v0 v1 v2 x0 x1 x2
        go_wp2
        go_meet
        exact ⟨_, _, rfl, Q.out.1, Q.out.2.1, Nat.le_refl _, GR2.out.2, Q.out.2.2⟩
    case rest =>
      obtain ⟨S, G, rfl, hs3, hg3, hS, hG, hb3⟩ := hcut
      obtain ⟨B, hB⟩ : ∃ B, w2.heap.size = B := ⟨_, rfl⟩
      rw [hB] at hS hG hb3
      have HBB := Lib.hid hB
      have HS3 := Lib.hid hs3
      have HG3 := Lib.hid (grid_new B G n lo wc hg3 hG)
      have HB3 := Lib.hid hb3
      have HSG := Lib.hid (And.intro hS hG)
      have HPB := Lib.hid (show w.heap.size < B ∧ Z < B by have h1 := lt_of_heap P2.out; have h2 := lt_of_heap Z2.out; rw [hB] at h1 h2; exact ⟨h1, h2⟩)
      have HW2 := Lib.hid (show Below w.heap.size w w2 from HB1.out.trans (HB2.out.mono HB1.out.size))
      clear hs3 hg3 hS hG hb3 p0 p1 hmk k1 hB
      go_wp2
      go_loopw [24] (fun i wi => ∃ (k : Nat) (V : List Value), i = .int .i64 (k : Int) ∧ k ≤ E.length ∧ Grid B wi G V (gridOf lo n (E.take k)) ∧ Box3 wi S lo hi (.slice (some ⟨G, 0, none⟩) n n) ∧ Below B w2 wi ∧ B ≤ wi.heap.size) (fun i _ => E.length - (intOf i).toNat)
      case atStart => exact ⟨0, _, rfl, by omega, by rw [List.take_zero]; exact HG3.out, HS3.out, HB3.out, by rw [← HBB.out]; exact HB3.out.size⟩
      case round =>
        obtain ⟨k, V, rfl, hk, hgr, hsb, hbb, hle⟩ := hrel
        have HGR0 := Lib.hid hgr
        have HSB0 := Lib.hid hsb
        have HBR0 := Lib.hid hbb
        have HLE0 := Lib.hid hle
        by_cases hlt : k < E.length
        · obtain ⟨⟨x1, x2⟩, hx⟩ : ∃ x, E[k]? = some x := ⟨_, List.getElem?_eq_getElem hlt⟩
          have hbw : Below w.heap.size w wr := HW2.out.trans (hbb.mono (Nat.le_of_lt HPB.out.1))
          obtain ⟨ge, oe, rfl, _, q0, q1⟩ := lies2 (HE.out wr hbw) hx
          have i6 : (k : Int) < (E.length : Int) := by omega
          have i7 : (k : Int) < 100000 := by have := HL.out; omega
          have HK := Lib.hid hlt
          have HX := Lib.hid hx
          clear hgr hsb hbb hle hx hbw hk hlt
          go_upto_region 7 with (fail)
          obtain ⟨eb, heb⟩ : ∃ eb, wr.heap.size = eb := ⟨_, rfl⟩
          obtain ⟨wc, hwc, gwc, bwc, swc⟩ := box_new wr (.cells #[.int .i64 x1, .int .i64 x2] 41 (0, 0))
          rw [hwc, heb]
          rw [heb] at gwc
          have HEB := Lib.hid (show wc.heap[eb]? = some (.cells #[.int .i64 x1, .int .i64 x2] 41 (0, 0)) from gwc)
          have HGR := Lib.hid (HGR0.out.below bwc)
          have HSB := Lib.hid (show Box3 wc S lo hi (.slice (some ⟨G, 0, none⟩) n n) from (Fr.of_below bwc).keep HSB0.out (fun e => e))
          have HBR := Lib.hid (show Below B w2 wc from HBR0.out.trans (bwc.mono HLE0.out))
          have HLE := Lib.hid (show B ≤ wc.heap.size from Nat.le_trans HLE0.out bwc.size)
          have hpc : wc.heap[w.heap.size]? = some (.cells #[.int .i64 lo, .int .i64 hi] 24 (0, 0)) := (HBR.out.block _ HPB.out.1).trans P2.out
          have HPC := Lib.hid hpc
          clear hwc gwc bwc swc heb q0 q1 hpc
          have d0 := cell_of_heap (i := 0) (v := .int .i64 x1) HEB.out rfl
          have d1 := cell_of_heap (i := 1) (v := .int .i64 x2) HEB.out rfl
          have p0 := cell_of_heap (i := 0) (v := .int .i64 lo) HPC.out rfl
          have p1 := cell_of_heap (i := 1) (v := .int .i64 hi) HPC.out rfl
          obtain ⟨b0, b1, b2, _, _, _⟩ := Box3.cells HSB.out
          by_cases hin : lo ≤ x1 ∧ x1 < hi
          case neg =>
            have HOUT := Lib.hid (grid_out HX.out (show ¬ (lo ≤ (x1, x2).1 ∧ (x1, x2).1 < lo + (n : Int)) from by have := HHN.out.1; rw [← this]; exact hin))
            have HREL := Lib.hid (show Grid B wc G V (gridOf lo n (E.take (k + 1))) by rw [HOUT.out]; exact HGR.out)
            by_cases h1 : lo ≤ x1
            · have j1 : decide (x1 ≥ lo) = true := decide_eq_true h1
              have j2 : decide (x1 < hi) = false := decide_eq_false (fun h => hin ⟨h1, h⟩)
              clear hin h1
              go_wp2
              go_roundw
              case rel => exact ⟨k + 1, V, by go_num, HK.out, HREL.out, HSB.out, HBR.out, HLE.out⟩
              case measure => have := HK.out; simp [intOf]; omega
            · have j1 : decide (x1 ≥ lo) = false := decide_eq_false h1
              clear hin h1
              go_wp2
              go_roundw
              case rel => exact ⟨k + 1, V, by go_num, HK.out, HREL.out, HSB.out, HBR.out, HLE.out⟩
              case measure => have := HK.out; simp [intOf]; omega
          have j1 : decide (x1 ≥ lo) = true := decide_eq_true hin.1
          have j2 : decide (x1 < hi) = true := decide_eq_true hin.2
          obtain ⟨a, ha⟩ : ∃ a : Nat, x1 - lo = (a : Int) := ⟨(x1 - lo).toNat, by omega⟩
          have HAN := Lib.hid (show a < n by have := HHN.out.1; omega)
          have HIN := Lib.hid (grid_in HX.out (show (x1, x2).1 = lo + (a : Int) from by show x1 = _; omega) HAN.out)
          obtain ⟨r0, hr0⟩ : ∃ r, rowsOf (E.take k) (lo + (a : Int)) = r := ⟨_, rfl⟩
          have HR0 := Lib.hid (show (gridOf lo n (E.take k))[a]? = some r0 by rw [grid_at HAN.out, hr0])
          rw [hr0] at HIN
          obtain ⟨v0, hv0, hrow0, c0, f0⟩ := HGR.out.row_at HR0.out
          have HV0 := Lib.hid hv0
          have HROW0 := Lib.hid hrow0
          have HLEN0 := Lib.hid (show r0.length ≤ 1000000 by rw [← hr0]; have h1 := rows_short (E.take k) (lo + (a : Int)); have h2 := HL.out; rw [List.length_take] at h1; omega)
          have ka : IntKind.i64.wrap (x1 - lo) = (a : Int) := by rw [ha]; exact IntWalk.i64_in _ ⟨by omega, by have := HAN.out; omega⟩
          have ja : (a : Int) < (n : Int) := by have := HAN.out; omega
          have HSS := Lib.hid (show ∀ W', Fr (fun j => Grid.has G V j) wc W' → W'.cell? ⟨eb, 0, none⟩ = some (.int .i64 x1) ∧ W'.cell? ⟨eb, 1, none⟩ = some (.int .i64 x2) ∧ W'.cell? ⟨w.heap.size, 0, none⟩ = some (.int .i64 lo) ∧ W'.cell? ⟨S, 2, none⟩ = some (.slice (some ⟨G, 0, none⟩) n n) from
            fun W' hf => ⟨hf.cell d0 (lt_of_heap HEB.out) (HGR.out.other HEB.out (by decide) (by decide)), hf.cell d1 (lt_of_heap HEB.out) (HGR.out.other HEB.out (by decide) (by decide)), hf.cell p0 (lt_of_heap HPC.out) (HGR.out.other HPC.out (by decide) (by decide)), hf.cell b2 (lt_of_heap HSB.out) (HGR.out.other HSB.out (by decide) (by decide))⟩)
          have HVM := Lib.hid (show ∀ k, v0.ownBlock = some k → Grid.has G V k from fun k hk => .inr ⟨v0, List.mem_of_getElem? HV0.out, hk⟩)
          have LP := Lib.hid (lt_of_heap HGR.out.blk)
          have NP := Lib.hid (HGR.out.not_p (List.mem_of_getElem? HV0.out))
          clear hv0 hrow0 hr0 ha hin
          go_upto_region 8 with (fail)
          have HBs := Lib.hid (show B ≤ (wc.alloc (.cells #[.int .i64 x2] 3)).heap.size from Nat.le_trans HLE.out (by simp))
          have c0b : (wc.alloc (.cells #[.int .i64 x2] 3)).cell? ⟨G, a, none⟩ = some v0 := (Fr.alloc wc _).cell c0 LP.out (fun h => h)
          refine wp_region_noPanic ?_
          refine wp_region_held_drew (S := fun W' => W'.cell? ⟨eb, 0, none⟩ = some (.int .i64 x1) ∧ W'.cell? ⟨eb, 1, none⟩ = some (.int .i64 x2) ∧ W'.cell? ⟨w.heap.size, 0, none⟩ = some (.int .i64 lo) ∧ W'.cell? ⟨S, 2, none⟩ = some (.slice (some ⟨G, 0, none⟩) n n)) (by kernel_rfl) ?_ (fun hHeld => ?_)
          · (first | exact HSS.out _ ((Fr.drew wc).mono (fun _ h => h.elim)))
          refine wpAnyH_take (i := 0) (oi := { dst := some 40, op := Op.fieldAddr 28 (Operand.tmp 5) 1, type := 0, pos := "shards.go:55", after := #[], guard := none }) (v := ?_) rfl (by kernel_rfl) (by kernel_rfl) (by kernel_rfl) (fun _ _ _ h => h) (Or.inl ⟨by rfl, ?_⟩) (by assumption) ?_
          rotate_left
          · ((intro wS hSw; (try dsimp only at hSw); go_simp); try with_reducible rfl)
          try simp only [Act.put, List.setIfInBounds_toArray, List.set_cons_zero, List.set_cons_succ]
          refine wpAnyH_take (i := 1) (oi := { dst := some 41, op := Op.load 26 (Operand.tmp 40), type := 26, pos := "shards.go:55", after := #[{ on := 0, ground := Ground.data }], guard := none }) (v := ?_) rfl (by kernel_rfl) (by kernel_rfl) (by kernel_rfl) (fun _ _ _ h => h) (Or.inl ⟨by rfl, ?_⟩) (by assumption) ?_
          rotate_left
          · ((intro wS hSw; (try dsimp only at hSw); go_simp); try with_reducible rfl)
          try simp only [Act.put, List.setIfInBounds_toArray, List.set_cons_zero, List.set_cons_succ]
          refine wpAnyH_take (i := 2) (oi := { dst := some 42, op := Op.fieldAddr 41 (Operand.tmp 7) 0, type := 0, pos := "shards.go:55", after := #[], guard := none }) (v := ?_) rfl (by kernel_rfl) (by kernel_rfl) (by kernel_rfl) (fun _ _ _ h => h) (Or.inl ⟨by rfl, ?_⟩) (by assumption) ?_
          rotate_left
          · ((intro wS hSw; (try dsimp only at hSw); go_simp); try with_reducible rfl)
          try simp only [Act.put, List.setIfInBounds_toArray, List.set_cons_zero, List.set_cons_succ]
          refine wpAnyH_take (i := 3) (oi := { dst := some 43, op := Op.load 3 (Operand.tmp 42), type := 3, pos := "shards.go:55", after := #[{ on := 2, ground := Ground.data }], guard := none }) (v := ?_) rfl (by kernel_rfl) (by kernel_rfl) (by kernel_rfl) (fun _ _ _ h => h) (Or.inl ⟨by rfl, ?_⟩) (by assumption) ?_
          rotate_left
          · ((intro wS hSw; (try dsimp only at hSw); go_simp); try with_reducible rfl)
          try simp only [Act.put, List.setIfInBounds_toArray, List.set_cons_zero, List.set_cons_succ]
          refine wpAnyH_take (i := 4) (oi := { dst := some 44, op := Op.fieldAddr 24 (Operand.tmp 3) 0, type := 0, pos := "shards.go:55", after := #[], guard := none }) (v := ?_) rfl (by kernel_rfl) (by kernel_rfl) (by kernel_rfl) (fun _ _ _ h => h) (Or.inl ⟨by rfl, ?_⟩) (by assumption) ?_
          rotate_left
          · ((intro wS hSw; (try dsimp only at hSw); go_simp); try with_reducible rfl)
          try simp only [Act.put, List.setIfInBounds_toArray, List.set_cons_zero, List.set_cons_succ]
          refine wpAnyH_take (i := 5) (oi := { dst := some 45, op := Op.load 3 (Operand.tmp 44), type := 3, pos := "shards.go:55", after := #[{ on := 4, ground := Ground.data }], guard := none }) (v := ?_) rfl (by kernel_rfl) (by kernel_rfl) (by kernel_rfl) (fun _ _ _ h => h) (Or.inl ⟨by rfl, ?_⟩) (by assumption) ?_
          rotate_left
          · ((intro wS hSw; (try dsimp only at hSw); go_simp); try with_reducible rfl)
          try simp only [Act.put, List.setIfInBounds_toArray, List.set_cons_zero, List.set_cons_succ]
          refine wpAnyH_take (i := 6) (oi := { dst := some 46, op := Op.binOp BinOp.sub 3 (Operand.tmp 43) (Operand.tmp 45) 3, type := 3, pos := "shards.go:55", after := #[{ on := 3, ground := Ground.data }, { on := 5, ground := Ground.data }], guard := none }) (v := ?_) rfl (by kernel_rfl) (by kernel_rfl) (by kernel_rfl) (fun _ _ _ h => h) (Or.inl ⟨by rfl, ?_⟩) (by assumption) ?_
          rotate_left
          · ((intro wS hSw; (try dsimp only at hSw); go_simp); try with_reducible rfl)
          try simp only [Act.put, List.setIfInBounds_toArray, List.set_cons_zero, List.set_cons_succ]
          refine wpAnyH_take (i := 7) (oi := { dst := some 47, op := Op.fieldAddr 28 (Operand.tmp 5) 1, type := 0, pos := "shards.go:55", after := #[], guard := none }) (v := ?_) rfl (by kernel_rfl) (by kernel_rfl) (by kernel_rfl) (fun _ _ _ h => h) (Or.inl ⟨by rfl, ?_⟩) (by assumption) ?_
          rotate_left
          · ((intro wS hSw; (try dsimp only at hSw); go_simp); try with_reducible rfl)
          try simp only [Act.put, List.setIfInBounds_toArray, List.set_cons_zero, List.set_cons_succ]
          refine wpAnyH_take (i := 8) (oi := { dst := some 48, op := Op.load 26 (Operand.tmp 47), type := 26, pos := "shards.go:55", after := #[{ on := 7, ground := Ground.data }], guard := none }) (v := ?_) rfl (by kernel_rfl) (by kernel_rfl) (by kernel_rfl) (fun _ _ _ h => h) (Or.inl ⟨by rfl, ?_⟩) (by assumption) ?_
          rotate_left
          · ((intro wS hSw; (try dsimp only at hSw); go_simp); try with_reducible rfl)
          try simp only [Act.put, List.setIfInBounds_toArray, List.set_cons_zero, List.set_cons_succ]
          refine wpAnyH_take (i := 9) (oi := { dst := some 49, op := Op.fieldAddr 41 (Operand.tmp 7) 0, type := 0, pos := "shards.go:55", after := #[], guard := none }) (v := ?_) rfl (by kernel_rfl) (by kernel_rfl) (by kernel_rfl) (fun _ _ _ h => h) (Or.inl ⟨by rfl, ?_⟩) (by assumption) ?_
          rotate_left
          · ((intro wS hSw; (try dsimp only at hSw); go_simp); try with_reducible rfl)
          try simp only [Act.put, List.setIfInBounds_toArray, List.set_cons_zero, List.set_cons_succ]
          refine wpAnyH_take (i := 10) (oi := { dst := some 50, op := Op.load 3 (Operand.tmp 49), type := 3, pos := "shards.go:55", after := #[{ on := 9, ground := Ground.data }], guard := none }) (v := ?_) rfl (by kernel_rfl) (by kernel_rfl) (by kernel_rfl) (fun _ _ _ h => h) (Or.inl ⟨by rfl, ?_⟩) (by assumption) ?_
          rotate_left
          · ((intro wS hSw; (try dsimp only at hSw); go_simp); try with_reducible rfl)
          try simp only [Act.put, List.setIfInBounds_toArray, List.set_cons_zero, List.set_cons_succ]
          refine wpAnyH_take (i := 11) (oi := { dst := some 51, op := Op.fieldAddr 24 (Operand.tmp 3) 0, type := 0, pos := "shards.go:55", after := #[], guard := none }) (v := ?_) rfl (by kernel_rfl) (by kernel_rfl) (by kernel_rfl) (fun _ _ _ h => h) (Or.inl ⟨by rfl, ?_⟩) (by assumption) ?_
          rotate_left
          · ((intro wS hSw; (try dsimp only at hSw); go_simp); try with_reducible rfl)
          try simp only [Act.put, List.setIfInBounds_toArray, List.set_cons_zero, List.set_cons_succ]
          refine wpAnyH_take (i := 12) (oi := { dst := some 52, op := Op.load 3 (Operand.tmp 51), type := 3, pos := "shards.go:55", after := #[{ on := 11, ground := Ground.data }], guard := none }) (v := ?_) rfl (by kernel_rfl) (by kernel_rfl) (by kernel_rfl) (fun _ _ _ h => h) (Or.inl ⟨by rfl, ?_⟩) (by assumption) ?_
          rotate_left
          · ((intro wS hSw; (try dsimp only at hSw); go_simp); try with_reducible rfl)
          try simp only [Act.put, List.setIfInBounds_toArray, List.set_cons_zero, List.set_cons_succ]
          refine wpAnyH_take (i := 13) (oi := { dst := some 53, op := Op.binOp BinOp.sub 3 (Operand.tmp 50) (Operand.tmp 52) 3, type := 3, pos := "shards.go:55", after := #[{ on := 10, ground := Ground.data }, { on := 12, ground := Ground.data }], guard := none }) (v := ?_) rfl (by kernel_rfl) (by kernel_rfl) (by kernel_rfl) (fun _ _ _ h => h) (Or.inl ⟨by rfl, ?_⟩) (by assumption) ?_
          rotate_left
          · ((intro wS hSw; (try dsimp only at hSw); go_simp); try with_reducible rfl)
          try simp only [Act.put, List.setIfInBounds_toArray, List.set_cons_zero, List.set_cons_succ]
          refine wpAnyH_take (i := 14) (oi := { dst := some 54, op := Op.indexAddr 26 (Operand.tmp 48) (Operand.tmp 53), type := 0, pos := "shards.go:55", after := #[{ on := 8, ground := Ground.data }, { on := 13, ground := Ground.data }], guard := none }) (v := ?_) rfl (by kernel_rfl) (by kernel_rfl) (by kernel_rfl) (fun _ _ _ h => h) (Or.inl ⟨by rfl, ?_⟩) (by assumption) ?_
          rotate_left
          · ((intro wS hSw; (try dsimp only at hSw); go_simp); try with_reducible rfl)
          try simp only [Act.put, List.setIfInBounds_toArray, List.set_cons_zero, List.set_cons_succ]
          refine wpAnyH_take (i := 16) (oi := { dst := some 56, op := Op.fieldAddr 41 (Operand.tmp 7) 1, type := 0, pos := "shards.go:55", after := #[], guard := none }) (v := ?_) rfl (by kernel_rfl) (by kernel_rfl) (by kernel_rfl) (fun _ _ _ h => h) (Or.inl ⟨by rfl, ?_⟩) (by assumption) ?_
          rotate_left
          · ((intro wS hSw; (try dsimp only at hSw); go_simp); try with_reducible rfl)
          try simp only [Act.put, List.setIfInBounds_toArray, List.set_cons_zero, List.set_cons_succ]
          refine wpAnyH_take (i := 17) (oi := { dst := some 57, op := Op.load 3 (Operand.tmp 56), type := 3, pos := "shards.go:55", after := #[{ on := 16, ground := Ground.data }], guard := none }) (v := ?_) rfl (by kernel_rfl) (by kernel_rfl) (by kernel_rfl) (fun _ _ _ h => h) (Or.inl ⟨by rfl, ?_⟩) (by assumption) ?_
          rotate_left
          · ((intro wS hSw; (try dsimp only at hSw); go_simp); try with_reducible rfl)
          try simp only [Act.put, List.setIfInBounds_toArray, List.set_cons_zero, List.set_cons_succ]
          refine wpAnyH_ready (rs := [15, 18]) (by kernel_rfl) (by simp) ?_
          refine AllReadyH.cons (o := { dst := some 55, op := Op.load 62 (Operand.tmp 54), type := 62, pos := "shards.go:55", after := #[{ on := 14, ground := Ground.data }], guard := none }) rfl (fun K hK => ?_) (AllReadyH.cons (o := { dst := some 58, op := Op.buildSlice 62 1 #[(0, Operand.tmp 57)], type := 62, pos := "shards.go:55", after := #[{ on := 17, ground := Ground.data }], guard := none }) rfl (fun K hK => ?_) AllReadyH.nil)
          · go_simp
            refine hK.out _ _ ?_ (fun hHeld => ?_)
            · (first | exact HSS.out _ (Fr.refl _ _) | exact HSS.out _ ((Fr.drew wc).mono (fun _ h => h.elim)) | exact HSS.out _ ((Fr.alloc wc _).mono (fun _ h => h.elim)) | exact HSS.out _ (((Fr.alloc wc _).trans (Fr.drew _)).mono (fun _ h => h.elim)) | exact HSS.out _ (((Fr.drew wc).trans (Fr.alloc _ _)).mono (fun _ h => h.elim)) | exact HSS.out _ hfw | exact HSS.out _ (hfw.trans ((Fr.setCell wb ⟨G, a, none⟩ _).mono (fun _ h => .inl h))))
            clear hK K
            try simp only [Act.put, List.setIfInBounds_toArray, List.set_cons_zero, List.set_cons_succ]
            refine wpAnyH_ready (rs := [18]) (by kernel_rfl) (by simp) ?_
            refine AllReadyH.cons (o := { dst := some 58, op := Op.buildSlice 62 1 #[(0, Operand.tmp 57)], type := 62, pos := "shards.go:55", after := #[{ on := 17, ground := Ground.data }], guard := none }) rfl (fun K hK => ?_) AllReadyH.nil
            go_simp
            refine hK.out _ _ ?_ (fun hHeld => ?_)
            · (first | exact HSS.out _ (Fr.refl _ _) | exact HSS.out _ ((Fr.drew wc).mono (fun _ h => h.elim)) | exact HSS.out _ ((Fr.alloc wc _).mono (fun _ h => h.elim)) | exact HSS.out _ (((Fr.alloc wc _).trans (Fr.drew _)).mono (fun _ h => h.elim)) | exact HSS.out _ (((Fr.drew wc).trans (Fr.alloc _ _)).mono (fun _ h => h.elim)) | exact HSS.out _ hfw | exact HSS.out _ (hfw.trans ((Fr.setCell wb ⟨G, a, none⟩ _).mono (fun _ h => .inl h))))
            clear hK K
            try simp only [Act.put, List.setIfInBounds_toArray, List.set_cons_zero, List.set_cons_succ]
            refine wpAnyH_ready (rs := [19]) (by kernel_rfl) (by simp) ?_
            refine AllReadyH.cons (o := { dst := some 59, op := Op.call { callee := Callee.builtin Builtin.append, args := #[Operand.tmp 55, Operand.tmp 58], argTypes := #[62, 62] }, type := 62, pos := "shards.go:55", after := #[{ on := 15, ground := Ground.data }, { on := 18, ground := Ground.data }], guard := none }) rfl (fun K hK => ?_) AllReadyH.nil
            (refine step_appI (by rfl) _ _ (by rfl) B r0 x2 v0 (by rfl) (HROW0.out.alloc (.cells #[.int .i64 x2] 3)) wc.heap.size (by rfl) (by first | exact heap_alloc_new wc _ | exact heap_alloc_new wc.drew _) HLEN0.out HBs.out ?_; intro A' c' wb hownb hf; obtain ⟨hf1, hloc1⟩ := hf; have hloc : ∀ g, (Value.slice A' (r0 ++ [x2]).length c').ownBlock = some g → v0.ownBlock = some g ∨ wc.heap.size ≤ g := fun g hg => (hloc1 g hg).imp id (fun h => Nat.le_trans (by simp) h); have hfb := (((Fr.alloc wc (.cells #[.int .i64 x2] 3)).mono (T := fun k => v0.ownBlock = some k) (fun _ e => e.elim)).trans (show Fr (fun k => v0.ownBlock = some k) (wc.alloc (.cells #[.int .i64 x2] 3)) wb from ⟨hf1.os, hf1.tape, hf1.output, hf1.size, hf1.block⟩)); clear hf1 hloc1; have hfw := hfb.mono HVM.out; have k1 := hfb.cell c0 LP.out NP.out; have kf := hfb.frozen f0 LP.out NP.out)
            refine hK.out _ _ ?_ (fun hHeld => ?_)
            · (first | exact HSS.out _ (Fr.refl _ _) | exact HSS.out _ ((Fr.drew wc).mono (fun _ h => h.elim)) | exact HSS.out _ ((Fr.alloc wc _).mono (fun _ h => h.elim)) | exact HSS.out _ (((Fr.alloc wc _).trans (Fr.drew _)).mono (fun _ h => h.elim)) | exact HSS.out _ (((Fr.drew wc).trans (Fr.alloc _ _)).mono (fun _ h => h.elim)) | exact HSS.out _ hfw | exact HSS.out _ (hfw.trans ((Fr.setCell wb ⟨G, a, none⟩ _).mono (fun _ h => .inl h))))
            clear hK K
            try simp only [Act.put, List.setIfInBounds_toArray, List.set_cons_zero, List.set_cons_succ]
            refine wpAnyH_take (i := 20) (oi := { dst := some 60, op := Op.indexAddr 26 (Operand.tmp 41) (Operand.tmp 46), type := 0, pos := "shards.go:55", after := #[{ on := 1, ground := Ground.data }, { on := 6, ground := Ground.data }, { on := 0, ground := Ground.phase }, { on := 1, ground := Ground.phase }, { on := 2, ground := Ground.phase }, { on := 3, ground := Ground.phase }, { on := 4, ground := Ground.phase }, { on := 5, ground := Ground.phase }, { on := 6, ground := Ground.phase }, { on := 7, ground := Ground.phase }, { on := 8, ground := Ground.phase }, { on := 9, ground := Ground.phase }, { on := 10, ground := Ground.phase }, { on := 11, ground := Ground.phase }, { on := 12, ground := Ground.phase }, { on := 13, ground := Ground.phase }, { on := 14, ground := Ground.phase }, { on := 15, ground := Ground.phase }, { on := 16, ground := Ground.phase }, { on := 17, ground := Ground.phase }, { on := 18, ground := Ground.phase }, { on := 19, ground := Ground.phase }], guard := none }) (v := ?_) rfl (by kernel_rfl) (by kernel_rfl) (by kernel_rfl) (fun _ _ _ h => h) (Or.inl ⟨by rfl, ?_⟩) (by assumption) ?_
            rotate_left
            · ((intro wS hSw; (try dsimp only at hSw); go_simp); try with_reducible rfl)
            try simp only [Act.put, List.setIfInBounds_toArray, List.set_cons_zero, List.set_cons_succ]
            refine wpAnyH_ready (rs := [21]) (by kernel_rfl) (by simp) ?_
            refine AllReadyH.cons (o := { dst := none, op := Op.store 62 (Operand.tmp 60) (Operand.tmp 59), type := 0, pos := "shards.go:55", after := #[{ on := 20, ground := Ground.data }, { on := 19, ground := Ground.data }, { on := 19, ground := Ground.chain }, { on := 0, ground := Ground.phase }, { on := 1, ground := Ground.phase }, { on := 2, ground := Ground.phase }, { on := 3, ground := Ground.phase }, { on := 4, ground := Ground.phase }, { on := 5, ground := Ground.phase }, { on := 6, ground := Ground.phase }, { on := 7, ground := Ground.phase }, { on := 8, ground := Ground.phase }, { on := 9, ground := Ground.phase }, { on := 10, ground := Ground.phase }, { on := 11, ground := Ground.phase }, { on := 12, ground := Ground.phase }, { on := 13, ground := Ground.phase }, { on := 14, ground := Ground.phase }, { on := 15, ground := Ground.phase }, { on := 16, ground := Ground.phase }, { on := 17, ground := Ground.phase }, { on := 18, ground := Ground.phase }, { on := 19, ground := Ground.phase }], guard := none }) rfl (fun K hK => ?_) AllReadyH.nil
            go_simp
            refine hK.out _ _ ?_ (fun hHeld => ?_)
            · (first | exact HSS.out _ (Fr.refl _ _) | exact HSS.out _ ((Fr.drew wc).mono (fun _ h => h.elim)) | exact HSS.out _ ((Fr.alloc wc _).mono (fun _ h => h.elim)) | exact HSS.out _ (((Fr.alloc wc _).trans (Fr.drew _)).mono (fun _ h => h.elim)) | exact HSS.out _ (((Fr.drew wc).trans (Fr.alloc _ _)).mono (fun _ h => h.elim)) | exact HSS.out _ hfw | exact HSS.out _ (hfw.trans ((Fr.setCell wb ⟨G, a, none⟩ _).mono (fun _ h => .inl h))))
            clear hK K
            try simp only [Act.put, List.setIfInBounds_toArray, List.set_cons_zero, List.set_cons_succ]
            refine wpAnyH_done (by kernel_rfl) ?_ _
            refine NoPanic.normal ?_
            have HF0 := pushed HGR.out HV0.out HR0.out hfb hownb hloc
            rw [show (r0 ++ [x2]).length = r0.length + 1 from by simp] at HF0
            have HFIN := Lib.hid HF0
            clear HF0 hownb hfb hfw k1 kf hloc
            go_wp2
            go_roundw
            case rel =>
              obtain ⟨V', g1, g2, g3⟩ := HFIN.out
              exact ⟨k + 1, V', by go_num, HK.out, by rw [HIN.out]; exact g1, g3.keep HSB.out (HGR.out.other HSB.out (by decide) (by decide)), HBR.out.trans (g3.below HLE.out (fun j hj => HGR.out.least hj)), Nat.le_trans HLE.out g3.size⟩
            case measure => have := HK.out; simp [intOf]; omega
          · go_simp
            refine hK.out _ _ ?_ (fun hHeld => ?_)
            · (first | exact HSS.out _ (Fr.refl _ _) | exact HSS.out _ ((Fr.drew wc).mono (fun _ h => h.elim)) | exact HSS.out _ ((Fr.alloc wc _).mono (fun _ h => h.elim)) | exact HSS.out _ (((Fr.alloc wc _).trans (Fr.drew _)).mono (fun _ h => h.elim)) | exact HSS.out _ (((Fr.drew wc).trans (Fr.alloc _ _)).mono (fun _ h => h.elim)) | exact HSS.out _ hfw | exact HSS.out _ (hfw.trans ((Fr.setCell wb ⟨G, a, none⟩ _).mono (fun _ h => .inl h))))
            clear hK K
            try simp only [Act.put, List.setIfInBounds_toArray, List.set_cons_zero, List.set_cons_succ]
            refine wpAnyH_ready (rs := [15]) (by kernel_rfl) (by simp) ?_
            refine AllReadyH.cons (o := { dst := some 55, op := Op.load 62 (Operand.tmp 54), type := 62, pos := "shards.go:55", after := #[{ on := 14, ground := Ground.data }], guard := none }) rfl (fun K hK => ?_) AllReadyH.nil
            go_simp
            refine hK.out _ _ ?_ (fun hHeld => ?_)
            · (first | exact HSS.out _ (Fr.refl _ _) | exact HSS.out _ ((Fr.drew wc).mono (fun _ h => h.elim)) | exact HSS.out _ ((Fr.alloc wc _).mono (fun _ h => h.elim)) | exact HSS.out _ (((Fr.alloc wc _).trans (Fr.drew _)).mono (fun _ h => h.elim)) | exact HSS.out _ (((Fr.drew wc).trans (Fr.alloc _ _)).mono (fun _ h => h.elim)) | exact HSS.out _ hfw | exact HSS.out _ (hfw.trans ((Fr.setCell wb ⟨G, a, none⟩ _).mono (fun _ h => .inl h))))
            clear hK K
            try simp only [Act.put, List.setIfInBounds_toArray, List.set_cons_zero, List.set_cons_succ]
            refine wpAnyH_ready (rs := [19]) (by kernel_rfl) (by simp) ?_
            refine AllReadyH.cons (o := { dst := some 59, op := Op.call { callee := Callee.builtin Builtin.append, args := #[Operand.tmp 55, Operand.tmp 58], argTypes := #[62, 62] }, type := 62, pos := "shards.go:55", after := #[{ on := 15, ground := Ground.data }, { on := 18, ground := Ground.data }], guard := none }) rfl (fun K hK => ?_) AllReadyH.nil
            (refine step_appI (by rfl) _ _ (by rfl) B r0 x2 v0 (by rfl) (HROW0.out.alloc (.cells #[.int .i64 x2] 3)) wc.heap.size (by rfl) (by first | exact heap_alloc_new wc _ | exact heap_alloc_new wc.drew _) HLEN0.out HBs.out ?_; intro A' c' wb hownb hf; obtain ⟨hf1, hloc1⟩ := hf; have hloc : ∀ g, (Value.slice A' (r0 ++ [x2]).length c').ownBlock = some g → v0.ownBlock = some g ∨ wc.heap.size ≤ g := fun g hg => (hloc1 g hg).imp id (fun h => Nat.le_trans (by simp) h); have hfb := (((Fr.alloc wc (.cells #[.int .i64 x2] 3)).mono (T := fun k => v0.ownBlock = some k) (fun _ e => e.elim)).trans (show Fr (fun k => v0.ownBlock = some k) (wc.alloc (.cells #[.int .i64 x2] 3)) wb from ⟨hf1.os, hf1.tape, hf1.output, hf1.size, hf1.block⟩)); clear hf1 hloc1; have hfw := hfb.mono HVM.out; have k1 := hfb.cell c0 LP.out NP.out; have kf := hfb.frozen f0 LP.out NP.out)
            refine hK.out _ _ ?_ (fun hHeld => ?_)
            · (first | exact HSS.out _ (Fr.refl _ _) | exact HSS.out _ ((Fr.drew wc).mono (fun _ h => h.elim)) | exact HSS.out _ ((Fr.alloc wc _).mono (fun _ h => h.elim)) | exact HSS.out _ (((Fr.alloc wc _).trans (Fr.drew _)).mono (fun _ h => h.elim)) | exact HSS.out _ (((Fr.drew wc).trans (Fr.alloc _ _)).mono (fun _ h => h.elim)) | exact HSS.out _ hfw | exact HSS.out _ (hfw.trans ((Fr.setCell wb ⟨G, a, none⟩ _).mono (fun _ h => .inl h))))
            clear hK K
            try simp only [Act.put, List.setIfInBounds_toArray, List.set_cons_zero, List.set_cons_succ]
            refine wpAnyH_take (i := 20) (oi := { dst := some 60, op := Op.indexAddr 26 (Operand.tmp 41) (Operand.tmp 46), type := 0, pos := "shards.go:55", after := #[{ on := 1, ground := Ground.data }, { on := 6, ground := Ground.data }, { on := 0, ground := Ground.phase }, { on := 1, ground := Ground.phase }, { on := 2, ground := Ground.phase }, { on := 3, ground := Ground.phase }, { on := 4, ground := Ground.phase }, { on := 5, ground := Ground.phase }, { on := 6, ground := Ground.phase }, { on := 7, ground := Ground.phase }, { on := 8, ground := Ground.phase }, { on := 9, ground := Ground.phase }, { on := 10, ground := Ground.phase }, { on := 11, ground := Ground.phase }, { on := 12, ground := Ground.phase }, { on := 13, ground := Ground.phase }, { on := 14, ground := Ground.phase }, { on := 15, ground := Ground.phase }, { on := 16, ground := Ground.phase }, { on := 17, ground := Ground.phase }, { on := 18, ground := Ground.phase }, { on := 19, ground := Ground.phase }], guard := none }) (v := ?_) rfl (by kernel_rfl) (by kernel_rfl) (by kernel_rfl) (fun _ _ _ h => h) (Or.inl ⟨by rfl, ?_⟩) (by assumption) ?_
            rotate_left
            · ((intro wS hSw; (try dsimp only at hSw); go_simp); try with_reducible rfl)
            try simp only [Act.put, List.setIfInBounds_toArray, List.set_cons_zero, List.set_cons_succ]
            refine wpAnyH_ready (rs := [21]) (by kernel_rfl) (by simp) ?_
            refine AllReadyH.cons (o := { dst := none, op := Op.store 62 (Operand.tmp 60) (Operand.tmp 59), type := 0, pos := "shards.go:55", after := #[{ on := 20, ground := Ground.data }, { on := 19, ground := Ground.data }, { on := 19, ground := Ground.chain }, { on := 0, ground := Ground.phase }, { on := 1, ground := Ground.phase }, { on := 2, ground := Ground.phase }, { on := 3, ground := Ground.phase }, { on := 4, ground := Ground.phase }, { on := 5, ground := Ground.phase }, { on := 6, ground := Ground.phase }, { on := 7, ground := Ground.phase }, { on := 8, ground := Ground.phase }, { on := 9, ground := Ground.phase }, { on := 10, ground := Ground.phase }, { on := 11, ground := Ground.phase }, { on := 12, ground := Ground.phase }, { on := 13, ground := Ground.phase }, { on := 14, ground := Ground.phase }, { on := 15, ground := Ground.phase }, { on := 16, ground := Ground.phase }, { on := 17, ground := Ground.phase }, { on := 18, ground := Ground.phase }, { on := 19, ground := Ground.phase }], guard := none }) rfl (fun K hK => ?_) AllReadyH.nil
            go_simp
            refine hK.out _ _ ?_ (fun hHeld => ?_)
            · (first | exact HSS.out _ (Fr.refl _ _) | exact HSS.out _ ((Fr.drew wc).mono (fun _ h => h.elim)) | exact HSS.out _ ((Fr.alloc wc _).mono (fun _ h => h.elim)) | exact HSS.out _ (((Fr.alloc wc _).trans (Fr.drew _)).mono (fun _ h => h.elim)) | exact HSS.out _ (((Fr.drew wc).trans (Fr.alloc _ _)).mono (fun _ h => h.elim)) | exact HSS.out _ hfw | exact HSS.out _ (hfw.trans ((Fr.setCell wb ⟨G, a, none⟩ _).mono (fun _ h => .inl h))))
            clear hK K
            try simp only [Act.put, List.setIfInBounds_toArray, List.set_cons_zero, List.set_cons_succ]
            refine wpAnyH_done (by kernel_rfl) ?_ _
            refine NoPanic.normal ?_
            have HF0 := pushed HGR.out HV0.out HR0.out hfb hownb hloc
            rw [show (r0 ++ [x2]).length = r0.length + 1 from by simp] at HF0
            have HFIN := Lib.hid HF0
            clear HF0 hownb hfb hfw k1 kf hloc
            go_wp2
            go_roundw
            case rel =>
              obtain ⟨V', g1, g2, g3⟩ := HFIN.out
              exact ⟨k + 1, V', by go_num, HK.out, by rw [HIN.out]; exact g1, g3.keep HSB.out (HGR.out.other HSB.out (by decide) (by decide)), HBR.out.trans (g3.below HLE.out (fun j hj => HGR.out.least hj)), Nat.le_trans HLE.out g3.size⟩
            case measure => have := HK.out; simp [intOf]; omega
        · obtain rfl : k = E.length := by omega
          rw [List.take_length] at hgr HGR0
          obtain ⟨b0, b1, b2, _, _, _⟩ := Box3.cells hsb
          have HG2 := Lib.hid (show Grid B wr G V (midO lo n E 0) by rw [mid_zero]; exact hgr)
          clear hgr hsb hbb hle hk hlt
          go_wp2
          clear b0 b1 b2
          go_loopw [65] (fun i wi => ∃ (k : Nat) (V : List Value), i = .int .i64 (k : Int) ∧ k ≤ n ∧ Grid B wi G V (midO lo n E k) ∧ Box3 wi S lo hi (.slice (some ⟨G, 0, none⟩) n n) ∧ Below B w2 wi ∧ B ≤ wi.heap.size) (fun i _ => n - (intOf i).toNat)
          case atStart => exact ⟨0, V, rfl, by omega, HG2.out, HSB0.out, HBR0.out, HLE0.out⟩
          case round =>
            obtain ⟨k, V2, rfl, hk, hgr, hsb, hbb, hle⟩ := hrel
            have HGR := Lib.hid hgr
            have HSB := Lib.hid hsb
            have HBR := Lib.hid hbb
            have HLE := Lib.hid hle
            by_cases hlt : k < n
            · obtain ⟨r0, hr0⟩ : ∃ r, rowsOf E (lo + (k : Int)) = r := ⟨_, rfl⟩
              have HR0 := Lib.hid (show (midO lo n E k)[k]? = some r0 by rw [mid_at hlt, if_neg (by omega), hr0])
              have HMS := Lib.hid (mid_step lo n E hlt)
              rw [hr0] at HMS
              obtain ⟨v0, hv0, hrow0, c0, f0⟩ := hgr.row_at HR0.out
              obtain ⟨A0, q0, rfl, _, _⟩ := row_open encI_len hrow0
              have hlen0 : r0.length ≤ 1000000 := by rw [← hr0]; have h1 := rows_short E (lo + (k : Int)); have h2 := HL.out; omega
              have HV0 := Lib.hid hv0
              have HST := Lib.hid (sort_at B A0 q0 r0 wr hrow0 hlen0)
              have HCP := Lib.hid (fun V' h => compact_at B A0 q0 (srtI r0) V' h (by rw [srtI_length]; exact hlen0))
              rw [srtI_length] at HCP
              have LP := Lib.hid (lt_of_heap HGR.out.blk)
              have NP := Lib.hid (HGR.out.not_p (List.mem_of_getElem? HV0.out))
              have NS := Lib.hid (show ¬ (Value.slice A0 r0.length q0).ownBlock = some S from fun e => HGR.out.other HSB.out (by decide) (by decide) (.inr ⟨_, List.mem_of_getElem? HV0.out, e⟩))
              have i6 : (k : Int) < (n : Int) := by omega
              have i7 : (k : Int) < 100000 := by omega
              have HK := Lib.hid hlt
              obtain ⟨b0, b1, b2, _, _, _⟩ := Box3.cells hsb
              clear hgr hsb hbb hle hk hlt hr0 hv0 hrow0 hlen0
              go_upto_region 14 with (go_at_call 30; refine HST.out.mono ?_; rintro e w5 ⟨rfl, hr5, hf5⟩; have HR5 := Lib.hid hr5; have HF5 := Lib.hid hf5; have b5 := hf5.cell b2 (lt_of_heap HSB.out) NS.out; clear hr5 hf5)
              have HF5D := Lib.hid (HF5.out.trans ((Fr.drew w5).mono (T := fun k => (Value.slice A0 r0.length q0).ownBlock = some k) (fun _ e => e.elim)))
              go_region_held3 (fun X => X.cell? ⟨S, 2, none⟩ = some (.slice (some ⟨G, 0, none⟩) n n))
                (first | exact b5 | exact b6 | (exact (Fr.setCell w6 ⟨G, k, none⟩ _).cell b6 LS6.out (fun e => NGS.out e)))
                ((go_at_call 31; refine (HCP.out w5.drew HR5.out).mono ?_; rintro e w6 ⟨rfl, hr6, hf6⟩; have HR6 := Lib.hid hr6; have hf56 := HF5D.out.trans hf6; have HF6 := Lib.hid hf56; have b6 := hf56.cell b2 (lt_of_heap HSB.out) NS.out; have k1 := hf56.cell c0 LP.out NP.out; have kf := hf56.frozen f0 LP.out NP.out; have LS6 := Lib.hid (Nat.lt_of_lt_of_le (lt_of_heap HSB.out) hf56.size); have NGS := Lib.hid (show ¬ S = G from fun e => by have h1 := HSB.out; unfold Box3 at h1; rw [e, HGR.out.blk] at h1; cases h1); clear hr6 hf6 hf56))
              have HFIN := Lib.hid (pushed HGR.out HV0.out HR0.out HF6.out HR6.out (fun g hg => .inl (by cases A0 <;> exact hg)))
              clear k1 kf
              go_wp2
              go_roundw
              case rel =>
                obtain ⟨V', g1, g2, g3⟩ := HFIN.out
                exact ⟨k + 1, V', by go_num, HK.out, by rw [HMS.out]; exact g1, g3.keep HSB.out (HGR.out.other HSB.out (by decide) (by decide)), HBR.out.trans (g3.below HLE.out (fun j hj => HGR.out.least hj)), Nat.le_trans HLE.out g3.size⟩
              case measure => have := HK.out; simp [intOf]; omega
            · obtain rfl : k = n := by omega
              rw [mid_all] at hgr HGR
              obtain ⟨b0, b1, b2, _, _, _⟩ := Box3.cells hsb
              have HZ2 := Lib.hid (show Box3 wr Z 0 0 (.slice none 0 0) from (hbb.block _ HPB.out.2).trans Z2.out)
              have HBW := Lib.hid (show Below w.heap.size w wr from HW2.out.trans (hbb.mono (Nat.le_of_lt HPB.out.1)))
              obtain ⟨z0, z1, z2, y0, y1, y2⟩ := Box3.cells HZ2.out
              clear hgr hsb hbb hle hk hlt
              go_wp2
              obtain ⟨w11, hw11⟩ : ∃ V, ((wr.setCell ⟨Z, 0, none⟩ (.int .i64 lo)).setCell ⟨Z, 1, none⟩ (.int .i64 hi)).setCell ⟨Z, 2, none⟩ (.slice (some ⟨G, 0, none⟩) k k) = V := ⟨_, rfl⟩
              have q := set_box3 HZ2.out lo hi (.slice (some ⟨G, 0, none⟩) k k)
              rw [hw11] at q ⊢
              have HG11 := Lib.hid (Grid.liesN (HGR.out.fr q.2 (fun j hj e => by have e' : j = Z := e; have h1 := HGR.out.least hj; have h2 := HPB.out.2; omega)) (Nat.le_of_lt HPB.out.1))
              obtain ⟨r0, r1, r2, _, _, _⟩ := Box3.cells q.1
              have Q := Lib.hid (HBW.out.trans (q.2.below (B := w.heap.size) (by have := HBW.out.size; omega) (fun j e => by have e' : j = Z := e; have := HSZ.out.1; omega)))
              have HLN := Lib.hid (mk_len lo k E)
              clear hw11 q z0 z1 z2 y0 y1 y2 b0 b1 b2
              exact bodyPost_ret (v := .agg #[.int .i64 lo, .int .i64 hi, .slice (some ⟨G, 0, none⟩) k k]) (by simp [results, Try.results11, go_sem, r0, r1, r2]) rfl ⟨some ⟨G, 0, none⟩, k, by rw [HLN.out], HG11.out, ⟨by rw [HLN.out]; exact Nat.le_refl _, by omega⟩, Q.out⟩
theorem make_at (Ae : Option Addr) (ce : Nat) (E : List Ed) (lo hi : Int) (w : World) (hE : Lies enc2 2 w Ae E) (hl : E.length ≤ 100000) :
    Calls Try.prog 11 #[.slice Ae E.length ce, partV lo hi] w fun e w' => ∃ A c, e = .returned (shV (mkS lo hi E).1 (mkS lo hi E).2.1 A (mkS lo hi E).2.2.length c) ∧ LiesR w' A (mkS lo hi E).2.2 ∧ ((mkS lo hi E).2.2.length ≤ c ∧ c ≤ 9223372036854775807) ∧ Below w.heap.size w w' :=
  (make_new Ae ce E lo hi w hE hl).mono fun e w' ⟨A, c, he, h1, h2⟩ => ⟨A, c, he, h1.lies, h2⟩
end Go.Proofs.Ytdlmkdldmiiaiaa.E
