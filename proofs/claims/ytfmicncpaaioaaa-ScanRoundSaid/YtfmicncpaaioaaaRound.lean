/- ScanRound, walked: within one round each is waited for once at each shard. Conditions: the arguments lie as they may. -/
import Derived.Deep.CutRange
import Derived.OpenShut
import Derived.Lib.SmallJoins
import Derived.Test.YtfmicncpaaioaaaLeave
namespace Go.Proofs.Ytfmicncpaaioaaa.Sc
open Go.ChangeShapes Go.WideShapes Go.Deep Go.RowKit Go.Maps Go.Sort Go.Shelf Go.Joins
open Go.Proofs.Ytfmicncpaaioaaa.Ma
set_option linter.unusedVariables false
set_option linter.unusedSimpArgs false
/-! ### plain -/
theorem idsOf_nil {L : List Ent} : idsOf false L = [] ↔ ∀ p ∈ L, p.2 = false := by
  unfold idsOf
  simp
theorem mem_idsOf {L : List Ent} {x : Int} : x ∈ idsOf false L ↔ (x, true) ∈ L := by
  unfold idsOf
  simp
theorem look_true {L : List Ent} (hr : Rising L) {x : Int} (hx : x ∈ idsOf false L) : Ma.has L x = true ∧ Ma.look L x = true :=
  ⟨has_iff.2 ⟨_, mem_idsOf.1 hx, rfl⟩, look_mem hr (mem_idsOf.1 hx)⟩
theorem has_setK {L : List Ent} {x : Int} {v : Bool} (y : Int) : Ma.has (setK x v L) y = Ma.has L y := by
  unfold Ma.has setK
  rw [List.any_map]
  congr 1
  funext p
  simp only [Function.comp]
  split
  · rename_i h; simp [h]
  · rfl
theorem has_allT {L : List Ent} (y : Int) : Ma.has (allT L) y = Ma.has L y := by
  unfold Ma.has allT
  rw [List.any_map]
  rfl
theorem look_setK {L : List Ent} {x y : Int} {v : Bool} : Ma.look (setK x v L) y = if x = y ∧ Ma.has L y = true then v else Ma.look L y := by
  induction L with
  | nil => simp [setK, Ma.look, Ma.has]
  | cons p r ih =>
    have e : setK x v (p :: r) = (if p.1 = x then (x, v) else p) :: setK x v r := rfl
    have e2 : Ma.has (p :: r) y = (p.1 == y || Ma.has r y) := rfl
    rw [e, look_cons, look_cons, ih, e2]
    by_cases h1 : p.1 = x
    · by_cases h2 : x = y
      · simp [h1, h2]
      · have h3 : ¬ p.1 = y := by omega
        simp [h1, h2]
    · by_cases h2 : p.1 = y
      · have h3 : ¬ x = y := by omega
        rw [if_neg h1, if_pos h2, if_neg (fun e => h3 e.1), if_pos h2]
      · simp [h1, h2]
theorem look_allT {L : List Ent} {y : Int} (h : Ma.has L y = true) : Ma.look (allT L) y = true := by
  induction L with
  | nil => simp [Ma.has] at h
  | cons p r ih =>
    have e : allT (p :: r) = (p.1, true) :: allT r := rfl
    have e2 : Ma.has (p :: r) y = (p.1 == y || Ma.has r y) := rfl
    rw [e, look_cons]
    by_cases h2 : p.1 = y
    · simp [h2]
    · rw [if_neg h2]
      rw [e2] at h
      have h3 : (p.1 == y) = false := by simpa using h2
      rw [h3] at h
      exact ih (by simpa using h)
theorem look_false {L : List Ent} (h : ∀ p ∈ L, p.2 = false) (y : Int) : Ma.look L y = false := by
  induction L with
  | nil => rfl
  | cons p r ih =>
    rw [look_cons]
    split
    · exact h p (by simp)
    · exact ih (fun q hq => h q (by simp [hq]))
theorem len_setK {L : List Ent} (hr : Rising L) {x : Int} (hx : x ∈ idsOf false L) : (idsOf false (setK x false L)).length + 1 = (idsOf false L).length := by
  induction L with
  | nil => simp [idsOf] at hx
  | cons p r ih =>
    have h' := List.pairwise_cons.1 hr
    have e : setK x false (p :: r) = (if p.1 = x then (x, false) else p) :: setK x false r := rfl
    have c : ∀ (q : Ent) (s : List Ent), idsOf false (q :: s) = (if q.2 = true then [q.1] else []) ++ idsOf false s := fun q s => by
      unfold idsOf
      cases h : q.2 <;> simp [h]
    rw [e, c, c]
    by_cases h1 : p.1 = x
    · have hmem := mem_idsOf.1 hx
      have hp2 : p.2 = true := by
        rcases List.mem_cons.1 hmem with h | h
        · rw [← h]
        · have := h'.1 _ h
          dsimp only at this
          omega
      have e3 : setK x false r = r := by
        unfold setK
        refine (List.map_congr_left (fun q hq => ?_)).trans (List.map_id r)
        have := h'.1 q hq
        rw [if_neg (by omega)]
        rfl
      rw [if_pos h1, e3, hp2]
      simp
    · have hx' : x ∈ idsOf false r := by
        refine mem_idsOf.2 ?_
        rcases List.mem_cons.1 (mem_idsOf.1 hx) with h | h
        · exact absurd (by rw [← h]) h1
        · exact h
      have := ih h'.2 hx'
      rw [if_neg h1]
      simp only [List.length_append]
      omega
theorem att_keeps {L L' : List Ent} {id c : Int} (h : attF L id = (c, L')) (hf : ∀ p ∈ L, p.2 = false) {y : Int} (hy : Ma.has L y = true) : (∀ p ∈ L', p.2 = false) ∧ Ma.has L' y = true := by
  unfold attF at h
  split at h
  · simp only [Prod.mk.injEq] at h; obtain ⟨_, rfl⟩ := h; exact ⟨hf, hy⟩
  · split at h
    · simp only [Prod.mk.injEq] at h; obtain ⟨_, rfl⟩ := h; exact ⟨hf, hy⟩
    · simp only [Prod.mk.injEq] at h
      obtain ⟨_, rfl⟩ := h
      refine ⟨fun p hp => ?_, ?_⟩
      · rcases mem_ins.1 hp with rfl | hp
        · rfl
        · exact hf p hp
      · obtain ⟨p, hp, e⟩ := has_iff.1 hy
        exact has_iff.2 ⟨p, mem_ins.2 (.inr hp), e⟩
theorem det_keeps {L L' : List Ent} {id c : Int} (h : detF L id = (c, L')) (hf : ∀ p ∈ L, p.2 = false) {y : Int} (hy : Ma.has L y = true) (hne : y ≠ id) : (∀ p ∈ L', p.2 = false) ∧ Ma.has L' y = true := by
  unfold detF at h
  split at h
  · simp only [Prod.mk.injEq] at h
    obtain ⟨_, rfl⟩ := h
    refine ⟨fun p hp => hf p (mem_del.1 hp).1, ?_⟩
    obtain ⟨p, hp, e⟩ := has_iff.1 hy
    exact has_iff.2 ⟨p, mem_del.2 ⟨hp, by omega⟩, e⟩
  · simp only [Prod.mk.injEq] at h; obtain ⟨_, rfl⟩ := h; exact ⟨hf, hy⟩
/-- How often the shard j was one of the first i from s on. -/
def vis (n : Nat) (s : Int) (i : Nat) (j : Nat) : Int := if ∃ k, k < i ∧ (s + (k : Int)) % n = j then 1 else 0
theorem vis_zero (n : Nat) (s : Int) (j : Nat) : vis n s 0 j = 0 := by
  unfold vis
  rw [if_neg (by rintro ⟨k, hk, _⟩; omega)]
theorem vis_here {n : Nat} {s : Int} {i : Nat} (hi : i < n) {j : Nat} (hj : (s + (i : Int)) % n = j) : vis n s i j = 0 := by
  unfold vis
  rw [if_neg]
  rintro ⟨k, hk, e⟩
  have h3 := Int.sub_emod (s + (i : Int)) (s + (k : Int)) n
  rw [hj, e, Int.sub_self, Int.zero_emod, show (s + (i : Int)) - (s + (k : Int)) = (i : Int) - (k : Int) by omega, Int.emod_eq_of_lt (by omega) (by omega)] at h3
  omega
theorem vis_succ {n : Nat} {s : Int} {i : Nat} (j : Nat) : vis n s (i + 1) j = if (s + (i : Int)) % n = j then 1 else vis n s i j := by
  unfold vis
  by_cases h : (s + (i : Int)) % n = j
  · rw [if_pos ⟨i, by omega, h⟩, if_pos h]
  · rw [if_neg h]
    congr 1
    apply propext
    constructor
    · rintro ⟨k, hk, e⟩
      refine ⟨k, ?_, e⟩
      rcases Nat.lt_or_ge k i with h1 | h1
      · exact h1
      · have : k = i := by omega
        subst this
        exact absurd e h
    · rintro ⟨k, hk, e⟩
      exact ⟨k, by omega, e⟩
theorem vis_all {n : Nat} {s : Int} {j : Nat} (hj : j < n) : vis n s n j = 1 := by
  unfold vis
  rw [if_pos]
  have h0 := Int.emod_nonneg ((j : Int) - s) (show (n : Int) ≠ 0 by omega)
  have h1 := Int.emod_lt_of_pos ((j : Int) - s) (show (0 : Int) < n by omega)
  refine ⟨(((j : Int) - s) % n).toNat, by omega, ?_⟩
  rw [show (((((j : Int) - s) % n).toNat : Nat) : Int) = ((j : Int) - s) % n by omega, Int.add_emod, Int.emod_emod_of_dvd _ (Int.dvd_refl _), ← Int.add_emod, show s + ((j : Int) - s) = j by omega]
  exact Int.emod_eq_of_lt (by omega) (by omega)
/-! ### the arguments -/
def IsBytes (w : World) (A : Option Addr) (len : Nat) (xs : List Int) : Prop := xs.length = len ∧ ∀ k x, xs[k]? = some x → ∃ g o, A = some ⟨g, o, none⟩ ∧ g < w.heap.size ∧ w.cell? ⟨g, o + k, none⟩ = some (.int .u8 x) ∧ 0 ≤ x ∧ x ≤ 255
theorem u8_bounds {x : Int} (h : (Lit.int .u8 x).wf = true) : 0 ≤ x ∧ x ≤ 255 := by
  simp only [Lit.wf, IntKind.min, IntKind.max, IntKind.signed, IntKind.bits] at h
  simp at h
  omega
section
variable {H : Type} {enc : TypeId × Value → H} {W : World}
theorem bytes_of {A : Option Addr} {len cap : Nat} {d : DataW H} {p : List MemPlace} (h : DataW.Trod enc Try.prog W 0 (fun _ => true) true 51 (.slice A len cap) d p) :
    len ≤ 9223372036854775807 ∧ ∃ xs, IsBytes W A len xs := by
  obtain ⟨fuel, hf⟩ := h
  rcases open_slice1 Try.underlying51 (by kernel_rfl) hf with ⟨hcs, _⟩ | ⟨a, l, c, m, n, V, D, Pl, hcs, _, hl, hm, hmm, _, hi⟩
  · simp [Value.cells] at hcs
    obtain ⟨rfl, rfl, rfl⟩ := hcs
    exact ⟨by omega, [], rfl, fun k x hx => by simp at hx⟩
  · simp [Value.cells] at hcs
    obtain ⟨rfl, rfl, rfl⟩ := hcs
    have hlm : len ≤ m := by rw [hmm]; simp; exact hl
    refine ⟨by unfold maxLen at hm; omega, ?_⟩
    have key : ∀ i, i < len → ∃ x : Int, a.spot = none ∧ a.block < W.heap.size ∧ W.cell? ⟨a.block, a.off + i, none⟩ = some (.int .u8 x) ∧ 0 ≤ x ∧ x ≤ 255 := by
      have hone : ∀ i, i < len → ∃ x : Int, W.cell? (a.add i) = some (.int .u8 x) ∧ 0 ≤ x ∧ x ≤ 255 := by
        intro i hil
        obtain ⟨hc, ht⟩ := hi i (by omega)
        obtain ⟨x, e0, _, wf⟩ := DataW.trod_int Try.underlying5 ht
        simp only [List.cons.injEq, and_true] at e0
        exact ⟨x, by rw [hc, e0], u8_bounds wf⟩
      intro i hil
      obtain ⟨x0, h0, _⟩ := hone 0 (by omega)
      obtain ⟨x, hx, hb0⟩ := hone i hil
      have hs : a.spot = none := by simpa [Addr.add] using spot_none h0
      have hb := World.block_lt_of_cell? W _ hx
      rw [add_block] at hb
      rw [add_flat hs] at hx
      exact ⟨x, hs, hb, hx, hb0⟩
    refine ⟨(List.range len).map fun i => if h : i < len then (key i h).choose else 0, by simp, fun k x hx => ?_⟩
    have hk : k < len := by
      have := (List.getElem?_eq_some_iff.1 hx).1
      simpa using this
    have e : x = (key k hk).choose := by
      simp [hk] at hx
      exact hx.symm
    obtain ⟨hs, hb, r⟩ := (key k hk).choose_spec
    rw [← e] at r
    exact ⟨a.block, a.off, by rw [← hs], hb, r⟩
theorem two_of {v : Value} {d : DataW H} {p : List MemPlace} {r : Reach} {b0 : Nat} (hv : Value.okWide Try.prog W r b0 50 v) (h : DataW.Trod enc Try.prog W 0 (fun _ => true) true 50 v d p) :
    ∃ x y : Int, v = .agg #[.int .u8 x, .int .u8 y] ∧ (0 ≤ x ∧ x ≤ 255) ∧ 0 ≤ y ∧ y ≤ 255 := by
  simp only [Value.okWide, Try.underlying50] at hv
  obtain ⟨cs, rfl, hsz, _⟩ := hv
  obtain ⟨c0, c1, rfl⟩ := array2 (hsz.trans (by kernel_rfl : Try.prog.cellsOf 50 = 2))
  obtain ⟨fuel, hf⟩ := h
  obtain ⟨xs, m, _, _, _, hl, hi⟩ := DataW.trod_array Try.underlying50 hf
  have h0 := hi 0 (by omega)
  have h1 := hi 1 (by omega)
  rw [show Try.prog.cellsOf 5 = 1 by kernel_rfl] at h0 h1
  rw [List.getElem?_eq_getElem (by omega)] at h0 h1
  obtain ⟨x, e0, _, w0⟩ := DataW.trod_int Try.underlying5 h0
  obtain ⟨y, e1, _, w1⟩ := DataW.trod_int Try.underlying5 h1
  simp [Value.cells] at e0 e1
  subst e0 e1
  exact ⟨x, y, rfl, u8_bounds w0, u8_bounds w1⟩
end
theorem box_new (w : World) (A : Obj) : ∃ W, w.alloc A = W ∧ W.heap[w.heap.size]? = some A ∧ Below w.heap.size w W ∧ W.heap.size = w.heap.size + 1 := ⟨_, rfl, heap_alloc_new w A, (Below.refl _ _).alloc (Nat.le_refl _) _, by simp⟩
theorem Fr.cell {S : Nat → Prop} {w w' : World} (h : Fr S w w') {k i : Nat} {v : Value} (hv : w.cell? ⟨k, i, none⟩ = some v) (hk : k < w.heap.size) (hS : ¬ S k) : w'.cell? ⟨k, i, none⟩ = some v := by
  have : w'.cell? ⟨k, i, none⟩ = w.cell? ⟨k, i, none⟩ := by simp [World.cell?, h.block k hk hS]
  rw [this, hv]
theorem make_n (w : World) (n : Nat) (h : n ≤ 16) : ∃ W, (Instr.makeSlice 36 (.int .i64 (n : Int)) (.int .i64 (n : Int))).run Try.prog w = .ok (.slice (some ⟨w.heap.size, 0, none⟩) n n) W ∧ (∀ j, j < n → W.cell? ⟨w.heap.size, j, none⟩ = some (.int .i64 0) ∧ W.frozen? ⟨w.heap.size, j, none⟩ = false) ∧ Below w.heap.size w W ∧ w.heap.size < W.heap.size := by
  obtain ⟨i0, hi, hz0, hz1, hz2⟩ := info_parts info3
  have hr := run_makeSlice (P := Try.prog) w 36 3 i0 _ Try.underlying36 hi hz0 .i64 .i64 (n : Int) (n : Int) (by omega) (by omega) (by rw [hz1]; omega) (by rw [hz2]; omega) (by omega)
  refine ⟨_, hr, fun j hj => ?_, (Below.refl _ _).alloc (Nat.le_refl _) _, by simp⟩
  have h0 := heap_alloc_new w (.cells (madeCells (Value.int .i64 0).cells ((n : Int).toNat * i0.size)) 3)
  have hs : (madeCells (Value.int .i64 0).cells ((n : Int).toNat * i0.size)).size = n := by rw [size_madeCells, hz1]; omega
  refine ⟨cell_of_heap h0 ?_, free_of_heap h0 (by rw [hs]; exact hj)⟩
  have e := toList_madeCells_one (Value.int .i64 0) ((n : Int).toNat * i0.size)
  have : (madeCells (Value.int .i64 0).cells ((n : Int).toNat * i0.size)).toList[j]? = some (.int .i64 0) := by
    rw [show (Value.int IntKind.i64 0).cells = #[Value.int .i64 0] from rfl, e, List.getElem?_replicate, if_pos (by rw [hz1]; omega)]
  simpa using this
def V (n : Nat) (s : Int) (i P : Nat) (L : List Ent) (j : Nat) : Int := if j = P then (if Ma.look L 100 = true then 0 else 1) else vis n s i j
theorem byte_at {w W wr : World} {b bm : Nat} {n a : Int} {L : List Ent} {A : Option Addr} {len : Nat} {xs : List Int} (h : St W wr b bm n a L) (hB : Below w.heap.size w W) (hd : IsBytes w A len xs) {i : Nat} (hi : i < len) :
    ∃ g o v, A = some ⟨g, o, none⟩ ∧ wr.cell? ⟨g, o + i, none⟩ = some (.int .u8 v) ∧ 0 ≤ v ∧ v ≤ 255 := by
  obtain ⟨v, hv⟩ : ∃ v, xs[i]? = some v := ⟨xs[i]'(by have := hd.1; omega), List.getElem?_eq_getElem _⟩
  obtain ⟨g, o, e, hg, hc, h0, h1⟩ := hd.2 i v hv
  exact ⟨g, o, v, e, (h.below.cell (p := ⟨g, o + i, none⟩) (by have := hB.size; show g < W.heap.size; omega)).trans ((hB.cell (p := ⟨g, o + i, none⟩) hg).trans hc), h0, h1⟩
theorem round_small (x y : Int) (A A2 : Option Addr) (len cap len2 cap2 : Nat) (w : World) (hl : len ≤ 9223372036854775807) (hl2 : len2 ≤ 9223372036854775807) (h : 30 < len ∨ 60 < len2) : Calls Try.prog 5 #[.agg #[.int .u8 x, .int .u8 y], .slice A len cap, .slice A2 len2 cap2] w fun e w' => e = .returned (.bool true) ∧ Below w.heap.size w w' := by
  by_cases h1 : 30 < len
  · have e1 : decide ((30 : Int) < (len : Int)) = true := by simp; omega
    clear h
    go_enter Try.func5, Try.ntmps5
    go_wp2_with (go_at_call 8; refine (rides_calls _).mono ?_; rintro e w14 ⟨rfl, hb14⟩)
    go_ret
    exact ⟨rfl, ((Below.refl _ _).alloc (Nat.le_refl _) _).trans (hb14.mono (by simp))⟩
  · have e1 : decide ((30 : Int) < (len : Int)) = false := by simp; omega
    have e2 : decide ((60 : Int) < (len2 : Int)) = true := by simp; omega
    clear h h1
    go_enter Try.func5, Try.ntmps5
    go_wp2_with (go_at_call 8; refine (rides_calls _).mono ?_; rintro e w14 ⟨rfl, hb14⟩)
    go_ret
    exact ⟨rfl, ((Below.refl _ _).alloc (Nat.le_refl _) _).trans (hb14.mono (by simp))⟩
theorem cell_set {w : World} {b i : Nat} {v u : Value} (h : w.cell? ⟨b, i, none⟩ = some v) : (w.setCell ⟨b, i, none⟩ u).cell? ⟨b, i, none⟩ = some u := by
  cases hb : w.heap[b]? with
  | none => simp [World.cell?, hb] at h
  | some o =>
    cases o with
    | cells cs t fz =>
      simp [World.cell?, hb] at h
      have hi : i < cs.size := (Array.getElem?_eq_some_iff.1 h).1
      exact cell_of_heap (heap_setCell_at hb u) (by simp [hi])
    | _ => simp [World.cell?, hb] at h
set_option maxRecDepth 100000 in
set_option maxHeartbeats 4000000 in
theorem round_at (x y : Int) (hx : 0 ≤ x ∧ x ≤ 255) (hy : 0 ≤ y ∧ y ≤ 255) (A A2 : Option Addr) (len cap len2 cap2 : Nat) (xs ys : List Int) (w : World) (hl : len ≤ 30) (hl2 : len2 ≤ 60) (hd : IsBytes w A len xs) (hd2 : IsBytes w A2 len2 ys) : Calls Try.prog 5 #[.agg #[.int .u8 x, .int .u8 y], .slice A len cap, .slice A2 len2 cap2] w fun e w' => e = .returned (.bool true) ∧ Below w.heap.size w w' := by
  have HD := Lib.hid hd
  have HD2 := Lib.hid hd2
  clear hd hd2
  have e1 : decide ((30 : Int) < (len : Int)) = false := by simp; omega
  have e2 : decide ((60 : Int) < (len2 : Int)) = false := by simp; omega
  have hc : IntKind.i64.wrap x = x := IntWalk.i64_in _ ⟨by omega, by omega⟩
  have hcy : IntKind.i64.wrap y = y := IntWalk.i64_in _ ⟨by omega, by omega⟩
  obtain ⟨r, hr⟩ : ∃ r, x % 16 = r := ⟨_, rfl⟩
  have hm0 : (x.tmod 16) = r := by rw [← hr]; exact Int.tmod_eq_emod_of_nonneg hx.1
  have hmw : IntKind.i64.wrap r = r := IntWalk.i64_in _ ⟨by omega, by omega⟩
  obtain ⟨n, hn, hn0, hn16⟩ : ∃ n : Nat, 1 + r = (n : Int) ∧ 1 ≤ n ∧ n ≤ 16 := ⟨(1 + r).toNat, by omega, by omega, by omega⟩
  have hmn : IntKind.i64.wrap (n : Int) = (n : Int) := IntWalk.i64_in _ ⟨by omega, by omega⟩
  obtain ⟨t, ht, ht40⟩ : ∃ t : Nat, y % 40 = (t : Int) ∧ t < 40 := ⟨(y % 40).toNat, by omega, by omega⟩
  have ht0 : (y.tmod 40) = (t : Int) := by rw [← ht]; exact Int.tmod_eq_emod_of_nonneg hy.1
  have htw : IntKind.i64.wrap (t : Int) = (t : Int) := IntWalk.i64_in _ ⟨by omega, by omega⟩
  clear hr ht
  go_enter Try.func5, Try.ntmps5
  go_wp2_with fail
  obtain ⟨W, hW, g1, hB, hsz⟩ := box_new w (.cells #[.int .u8 x, .int .u8 y] 50)
  rw [hW]
  clear hW
  obtain ⟨bx, hbx⟩ : ∃ bx, w.heap.size = bx := ⟨_, rfl⟩
  rw [hbx] at g1 hsz ⊢
  have HB := Lib.hid hB
  have HG := Lib.hid g1
  have HZ := Lib.hid hsz
  clear hB hsz g1 hx e1 e2 hc hm0 hmw hn
  refine (new_step W W n (by omega) (by omega) (Below.refl _ _)).mono ?_
  rintro e w1 ⟨b, bm, rfl, h1, _, hb, hm⟩
  go_wp2_with fail
  go_loopw [10] (fun i wr => ∃ (k : Nat) (a : Int), k ≤ t ∧ i = .int .i64 k ∧ St W wr b bm n a []) (fun i _ => t - (intOf i).toNat)
  case atStart => exact ⟨0, -1, by omega, rfl, h1⟩
  case round =>
    obtain ⟨k, a, hk, rfl, h⟩ := hrel
    have q0 : wr.cell? ⟨bx, 1, none⟩ = some (.int .u8 y) := cell_of_heap ((h.below.block bx (by have := HZ.out; omega)).trans HG.out) rfl
    by_cases hkt : k < t
    · have hv : advF n a [] = (((a + 1) % n, 0), (a + 1) % n, []) := rfl
      go_wp2_with (go_at_call 17; refine (adv_step h hv).mono ?_; rintro e w2 ⟨rfl, h2, _⟩)
      go_roundw
      case rel => exact ⟨k + 1, _, by omega, by go_num, h2⟩
      case measure => simp [intOf]; omega
    · obtain rfl : k = t := by omega
      have a0 := h.a0
      have a1 := h.a1
      go_wp2_with fail
      refine (att_step h (id := 100) (c := 0) (L' := [(100, false)]) (by decide) (by decide)).mono ?_
      rintro e w2 ⟨rfl, h2, _⟩
      clear h h1
      obtain ⟨W3, hmk, hz3, hb3, hsb⟩ := make_n w2 n hn16
      obtain ⟨sb, hsbe⟩ : ∃ sb, w2.heap.size = sb := ⟨_, rfl⟩
      rw [hsbe] at hmk hz3 hsb
      have nb : sb ≠ b := by have := lt_of_heap h2.lies.1; omega
      have nm : sb ≠ bm := by have := h2.lies.2.lt; omega
      have hWs : W.heap.size ≤ sb := by have := h2.below.size; omega
      have h3 := h2.other hb3
      clear h2 hb3 hsbe q0 ht0 htw hcy hb hm
      go_wp2
      obtain ⟨s, hs0⟩ : ∃ s, a + 1 = s := ⟨_, rfl⟩
      go_loopw [14, 15] (fun sv iv wr => ∃ (i st : Nat) (L : List Ent) (ap : Int), i ≤ n ∧ iv = .int .i64 i ∧ sv = .int .i64 st ∧ st ≤ 4 * i ∧ St W wr b bm n ap L ∧ (ap + 1) % (n : Int) = (s + (i : Int)) % (n : Int) ∧ (∀ p ∈ L, p.2 = false) ∧ Ma.has L 100 = true ∧ (∀ j, j < n → wr.cell? ⟨sb, j, none⟩ = some (.int .i64 (vis n s i j)) ∧ wr.frozen? ⟨sb, j, none⟩ = false) ∧ sb < wr.heap.size) (fun _ iv _ => n - (intOf iv).toNat)
      case atStart => exact ⟨0, 0, _, a, by omega, rfl, rfl, by omega, h3, by rw [← hs0]; simp, by simp, by decide, fun j hj => by rw [vis_zero]; exact hz3 j hj, hsb⟩
      case round =>
        obtain ⟨i, st, L, ap, hi, rfl, rfl, hst, h, hap, hf, hhas, hcell, hsb1⟩ := hrel
        clear hz3 hmk hsb h3 hs0 ht40
        have HAP := Lib.hid hap
        clear hap
        by_cases hin : i < n
        · obtain ⟨P, hPv, hP⟩ : ∃ P : Nat, (s + (i : Int)) % (n : Int) = (P : Int) ∧ P < n := by
            have m0 := Int.emod_nonneg (s + (i : Int)) (show (n : Int) ≠ 0 by omega)
            have m1 := Int.emod_lt_of_pos (s + (i : Int)) (show (0 : Int) < n by omega)
            exact ⟨((s + (i : Int)) % n).toNat, by omega, by omega⟩
          have HPV := Lib.hid hPv
          clear hPv
          go_upto_if 71 with (fail)
          go_cut [16] from 63 to 146 (fun _ wx => ∃ L1 : List Ent, St W wx b bm n ap L1 ∧ ((∀ p ∈ L1, p.2 = false) ∧ Ma.has L1 100 = true) ∧ (∀ j, j < n → wx.cell? ⟨sb, j, none⟩ = some (.int .i64 (vis n s i j)) ∧ wx.frozen? ⟨sb, j, none⟩ = false) ∧ sb < wx.heap.size)
          case first =>
            by_cases hil : i < len
            · obtain ⟨g1, o1, v1, rfl, q1, v10, v11⟩ := byte_at h HB.out HD.out hil
              have w1c : IntKind.i64.wrap v1 = v1 := IntWalk.i64_in _ ⟨by omega, by omega⟩
              obtain ⟨d, hd⟩ : ∃ d, v1 % 6 = d := ⟨_, rfl⟩
              have hd0 : 0 ≤ d ∧ d < 6 := by omega
              have hdt : v1.tmod 6 = d := by rw [← hd]; exact Int.tmod_eq_emod_of_nonneg v10
              have hdw : IntKind.i64.wrap d = d := IntWalk.i64_in _ ⟨by omega, by omega⟩
              have hwf1 : I64 d := Go.WalkArith.wf_i64 ⟨by omega, by omega⟩
              clear hd
              have HCC := Lib.hid hcell
              have HFF := Lib.hid (And.intro hf hhas)
              clear hcell hf hhas
              by_cases h128 : 128 ≤ v1
              · obtain ⟨cd, L1, hv⟩ : ∃ cd L1, detF L d = (cd, L1) := ⟨_, _, rfl⟩
                have hk1 := det_keeps hv HFF.out.1 HFF.out.2 (show (100 : Int) ≠ d by omega)
                have HK1 := Lib.hid hk1
                clear hk1
                go_wp2_with fail
                refine (det_step h hv hwf1).mono ?_
                rintro e wd ⟨rfl, h1, f1⟩
                have F1 := Lib.hid f1
                clear f1 h hv
                go_wp2
                go_meet
                refine ⟨L1, h1, HK1.out, fun j hj => ?_, Nat.lt_of_lt_of_le hsb1 F1.out.size⟩
                obtain ⟨y1, y2⟩ := HCC.out j hj
                exact ⟨Fr.cell F1.out y1 hsb1 (fun e => e.elim nb nm), by (rw [← y2]; simp [World.frozen?, F1.out.block sb hsb1 (fun e => e.elim nb nm)])⟩
              · obtain ⟨cd, L1, hv⟩ : ∃ cd L1, attF L d = (cd, L1) := ⟨_, _, rfl⟩
                have hk1 := att_keeps hv HFF.out.1 HFF.out.2
                have HK1 := Lib.hid hk1
                clear hk1
                go_wp2_with fail
                refine (att_step h hv hwf1).mono ?_
                rintro e wd ⟨rfl, h1, f1⟩
                have F1 := Lib.hid f1
                clear f1 h hv
                go_wp2
                go_meet
                refine ⟨L1, h1, HK1.out, fun j hj => ?_, Nat.lt_of_lt_of_le hsb1 F1.out.size⟩
                obtain ⟨y1, y2⟩ := HCC.out j hj
                exact ⟨Fr.cell F1.out y1 hsb1 (fun e => e.elim nb nm), by (rw [← y2]; simp [World.frozen?, F1.out.block sb hsb1 (fun e => e.elim nb nm)])⟩
            · have HCC := Lib.hid hcell
              have HFF := Lib.hid (And.intro hf hhas)
              clear hcell hf hhas
              go_wp2
              go_meet
              exact ⟨L, h, HFF.out, HCC.out, hsb1⟩
          case rest =>
            obtain ⟨L1, h1, ⟨hf1, hh1⟩, hc1, hsb1⟩ := hcut
            clear h hf hhas hcell
            have H1 := Lib.hid (And.intro hf1 hh1)
            have HC1 := Lib.hid hc1
            clear hf1 hh1 hc1
            have hva : advF n ap L1 = (((ap + 1) % n, 0), (ap + 1) % n, allT L1) := by
              unfold advF
              rw [if_pos (idsOf_nil.2 H1.out.1)]
            rw [HAP.out, HPV.out] at hva
            go_wp2_with fail
            refine (adv_step h1 hva).mono ?_
            rintro e wA ⟨rfl, hA, fA⟩
            have FA := Lib.hid fA
            have HP := HPV
            clear fA h1 hva
            have p1 : decide ((P : Int) < 0) = false := by simp
            have p2 : decide ((P : Int) ≥ (n : Int)) = false := by simp; omega
            have p3 : decide ((n : Int) ≤ (P : Int)) = false := by simp; omega
            have p4 : decide (n ≤ P) = false := by simp; omega

            -- the inner loop
            go_wp2
            go_loopw [14] (fun sv wr => ∃ (st : Nat) (Li : List Ent), sv = .int .i64 st ∧ st + (idsOf false Li).length ≤ 4 * (i + 1) ∧ St W wr b bm n P Li ∧ Ma.has Li 100 = true ∧ (∀ j, j < n → wr.cell? ⟨sb, j, none⟩ = some (.int .i64 (V n s i P Li j)) ∧ wr.frozen? ⟨sb, j, none⟩ = false) ∧ sb < wr.heap.size) (fun sv _ => 1000 - (intOf sv).toNat)
            case atStart =>
              refine ⟨st, allT L1, rfl, ?_, hA, by rw [has_allT]; exact H1.out.2, fun j hj => ?_, Nat.lt_of_lt_of_le hsb1 FA.out.size⟩
              · have h7 := (idsOf_le false (allT L1) (allT L1).length)
                rw [List.take_length] at h7
                have h8 := hA.ok.len
                omega
              · obtain ⟨y1, y2⟩ := HC1.out j hj
                have k5 := Fr.cell FA.out y1 hsb1 (fun e => e.elim nb nm)
                have kz5 : wA.frozen? ⟨sb, j, none⟩ = false := by (rw [← y2]; simp [World.frozen?, FA.out.block sb hsb1 (fun e => e.elim nb nm)])
                refine ⟨?_, kz5⟩
                have : V n s i P (allT L1) j = vis n s i j := by
                  unfold V
                  by_cases hjP : j = P
                  · rw [if_pos hjP, look_allT H1.out.2, if_pos rfl, hjP, vis_here hin HP.out]
                  · rw [if_neg hjP]
                rw [this]
                exact k5
            case round =>
              obtain ⟨st, Li, rfl, hst, hs, hhas, hcell, hsb2⟩ := hrel
              have HH := Lib.hid hhas
              clear hhas
              by_cases hnil : idsOf false Li = []
              · have HNil := Lib.hid hnil
                have HC := Lib.hid hcell
                have HS := Lib.hid hs
                clear hcell
                rw [hnil] at hst
                go_wp2_with fail
                refine (wait_step hs hnil).mono ?_
                rintro e w3 ⟨A3, c3, rfl, _, _, h3, hb3⟩
                simp only [List.length_nil] at hst ⊢
                clear hnil hs
                have HB3 := Lib.hid hb3
                go_wp2
                go_roundw
                case rel =>
                  have hf := look_false (idsOf_nil.1 HNil.out) 100
                  refine ⟨i + 1, st, Li, (P : Int), by omega, by go_num, rfl, by omega, h3, ?_, idsOf_nil.1 HNil.out, HH.out, fun j hj => ?_, Nat.lt_of_lt_of_le hsb2 HB3.out.size⟩
                  · rw [← HP.out, Int.emod_add_emod]
                    congr 1
                    push_cast
                    omega
                  · obtain ⟨y1, y2⟩ := HC.out j hj
                    refine ⟨(((HB3.out.cell (p := ⟨sb, j, none⟩) hsb2).trans y1).trans ?_), (HB3.out.frozen (p := ⟨sb, j, none⟩) hsb2).trans y2⟩
                    congr 2
                    unfold V
                    rw [vis_succ]
                    by_cases hjP : j = P
                    · rw [if_pos hjP, if_neg (by rw [hf]; simp), if_pos (by rw [HP.out, hjP])]
                    · rw [if_neg hjP, if_neg (by rw [HP.out]; omega)]
                case measure => simp [intOf]; omega
              · have hz0 : 0 < (idsOf false Li).length := List.length_pos_iff.2 hnil
                have HC := Lib.hid hcell
                clear hnil hcell
                obtain ⟨z, hz⟩ : ∃ z, (idsOf false Li).length = z := ⟨_, rfl⟩
                have HZL := Lib.hid hz
                rw [hz] at hz0 hst
                go_wp2_with fail
                refine (wait_step hs rfl).mono ?_
                rintro e w3 ⟨A3, c3, rfl, ⟨hc3, hl3⟩, _, h3, hb3⟩
                rw [hz] at hc3 hl3 ⊢
                have HB3 := Lib.hid hb3
                clear hb3
                have e0 : decide (0 < (z : Int)) = true := by simp; omega
                go_wp2_with fail
                refine (wait_step h3 rfl).mono ?_
                rintro e w4 ⟨A4, c4, rfl, ⟨hc4, hl4⟩, hi4, h4, hb4⟩
                rw [hz] at hc4 hl4 ⊢
                clear hz
                have hb3 := HB3.out
                have hcell4 : ∀ j, j < n → w4.cell? ⟨sb, j, none⟩ = some (.int .i64 (V n s i P Li j)) ∧ w4.frozen? ⟨sb, j, none⟩ = false := fun j hj => by
                  obtain ⟨y1, y2⟩ := HC.out j hj
                  have b3 := hb3.size
                  exact ⟨(hb4.cell (p := ⟨sb, j, none⟩) (by show sb < w3.heap.size; omega)).trans ((hb3.cell (p := ⟨sb, j, none⟩) hsb2).trans y1), (hb4.frozen (p := ⟨sb, j, none⟩) (by show sb < w3.heap.size; omega)).trans ((hb3.frozen (p := ⟨sb, j, none⟩) hsb2).trans y2)⟩
                have hsb4 : sb < w4.heap.size := by have := hb3.size; have := hb4.size; omega
                have H4 := Lib.hid hcell4
                have HI4 := Lib.hid hi4
                clear hcell4 hi4 hb3 hb4 h3
                have hmz : ¬ (z : Int) = 0 := by omega
                go_upto_if 114 with (fail)
                go_cut [20] from 105 to 146 (fun kv wx => ∃ kk : Nat, kk < z ∧ kv = .int .i64 kk ∧ wx = w4)
                case first =>
                  by_cases hstl : st < len2
                  · obtain ⟨g2, o2, v2, rfl, q2, v20, v21⟩ := byte_at h4 HB.out HD2.out hstl
                    have w2c : IntKind.i64.wrap v2 = v2 := IntWalk.i64_in _ ⟨by omega, by omega⟩
                    obtain ⟨kk, hkk, hkl⟩ : ∃ kk : Nat, v2 % (z : Int) = (kk : Int) ∧ kk < z := by
                      have m0 := Int.emod_nonneg v2 hmz
                      have m1 := Int.emod_lt_of_pos v2 (show (0 : Int) < (z : Int) by omega)
                      exact ⟨(v2 % (z : Int)).toNat, by omega, by omega⟩
                    have hkt : v2.tmod (z : Int) = (kk : Int) := by rw [← hkk]; exact Int.tmod_eq_emod_of_nonneg v20
                    have hkw : IntKind.i64.wrap (kk : Int) = (kk : Int) := IntWalk.i64_in _ ⟨by omega, by omega⟩
                    clear hkk
                    go_wp2
                    go_meet
                    exact ⟨kk, hkl, rfl, rfl⟩
                  · go_wp2
                    go_meet
                    exact ⟨0, hz0, rfl, rfl⟩
                case rest =>
                  obtain ⟨kk, hkl, rfl, rfl⟩ := hcut
                  obtain ⟨xi, hxi⟩ : ∃ xi, (idsOf false Li)[kk]? = some xi := ⟨(idsOf false Li)[kk]'(by rw [HZL.out]; exact hkl), List.getElem?_eq_getElem _⟩
                  obtain ⟨g4, rfl, hg4, hg4', q4, _⟩ := HI4.out kk xi hxi
                  have hmem := List.mem_of_getElem? hxi
                  have hlk := look_true hs.ok.rising hmem
                  have hsv : serF Li xi = (0, setK xi false Li) := by simp [serF, hlk.1, hlk.2]
                  have hwf : I64 xi := hs.ok.wf _ (mem_idsOf.1 hmem)
                  have hlen := len_setK hs.ok.rising hmem
                  rw [HZL.out] at hlen
                  have hstep : decide (1000 < (st : Int) + 1) = false := by simp; omega
                  have hsw : IntKind.i64.wrap ((st : Int) + 1) = (st : Int) + 1 := IntWalk.i64_in _ ⟨by omega, by omega⟩
                  have HM := Lib.hid hmem
                  have HL := Lib.hid hlk
                  have HN := Lib.hid hlen
                  have ng : g4 ≠ b := by have := lt_of_heap hs.lies.1; have := HB3.out.size; omega
                  have ngm : g4 ≠ bm := by have := hs.lies.2.lt; have := HB3.out.size; omega
                  have hPc := H4.out P hP
                  have hfP := hPc.2
                  have hcP := hPc.1
                  have HS := Lib.hid hs
                  clear hxi hmem hlk hlen hPc hs hg4 hc3 hl3
                  by_cases h100 : xi = 100
                  · have e1 : (xi == 100) = true := by simpa using h100
                    have hV0 : V n s i P Li P = 0 := by
                      have := HL.out.2
                      rw [h100] at this
                      simp [V, this]
                    rw [hV0] at hcP
                    have H100 := Lib.hid h100
                    have hP9 := hP
                    clear hV0 h100
                    go_wp2_with (go_at_call 15; refine (ser_step h4 hsv hwf).mono ?_; rintro e w5 ⟨rfl, h5, f5⟩; have q5 := Fr.cell f5 q4 hg4' (fun e => e.elim ng ngm); have c5 := Fr.cell f5 hcP hsb4 (fun e => e.elim nb nm); have z5 : w5.frozen? ⟨sb, P, none⟩ = false := by (rw [← hfP]; simp [World.frozen?, f5.block sb hsb4 (fun e => e.elim nb nm)]))
                    have F5 := Lib.hid f5
                    go_roundw
                    case rel =>
                      have hx1 := HN.out
                      have h100' := H100.out
                      have fset := Fr.setCell w5 ⟨sb, P, none⟩ (.int .i64 (0 + 1))
                      have hsw5 := Nat.lt_of_lt_of_le hsb4 F5.out.size
                      refine ⟨st + 1, setK xi false Li, by go_num, by omega, h5.turn fset (fun e => nb e.symm) (fun e => nm e.symm) (fun k hk => by have hk' : k = sb := hk; omega), by rw [has_setK]; exact HH.out, fun j hj => ?_, Nat.lt_of_lt_of_le hsw5 fset.size⟩
                      have hj4 := H4.out j hj
                      have k5 := Fr.cell F5.out hj4.1 hsb4 (fun e => e.elim nb nm)
                      have kz5 : w5.frozen? ⟨sb, j, none⟩ = false := by (rw [← hj4.2]; simp [World.frozen?, F5.out.block sb hsb4 (fun e => e.elim nb nm)])
                      by_cases hjP : j = P
                      · subst hjP
                        refine ⟨?_, by rw [World.frozen?_setCell]; exact kz5⟩
                        have : V n s i j (setK xi false Li) j = 1 := by
                          unfold V
                          have key : Ma.look (setK xi false Li) 100 = false := look_setK.trans (if_pos (And.intro h100' HH.out))
                          rw [key]
                          simp
                        rw [this]
                        exact cell_set k5
                      · refine ⟨?_, by rw [World.frozen?_setCell]; exact kz5⟩
                        have : V n s i P (setK xi false Li) j = V n s i P Li j := by
                          unfold V
                          rw [if_neg hjP, if_neg hjP]
                        rw [this, World.cell?_setCell_other _ _ _ _ (fun e => by cases e; exact hjP rfl)]
                        exact k5
                    case measure => simp [intOf]; omega
                  · have e1 : (xi == 100) = false := by simpa using h100
                    go_wp2_with (go_at_call 15; refine (ser_step h4 hsv hwf).mono ?_; rintro e w5 ⟨rfl, h5, f5⟩; have q5 := Fr.cell f5 q4 hg4' (fun e => e.elim ng ngm))
                    have F5 := Lib.hid f5
                    go_roundw
                    case rel =>
                      have hx1 := HN.out
                      refine ⟨st + 1, setK xi false Li, by go_num, by omega, h5, by rw [has_setK]; exact HH.out, fun j hj => ?_, Nat.lt_of_lt_of_le hsb4 F5.out.size⟩
                      have hj4 := H4.out j hj
                      have k5 := Fr.cell F5.out hj4.1 hsb4 (fun e => e.elim nb nm)
                      have kz5 : w5.frozen? ⟨sb, j, none⟩ = false := by (rw [← hj4.2]; simp [World.frozen?, F5.out.block sb hsb4 (fun e => e.elim nb nm)])
                      refine ⟨?_, kz5⟩
                      have : V n s i P (setK xi false Li) j = V n s i P Li j := by
                        unfold V
                        by_cases hjP : j = P
                        · have key : Ma.look (setK xi false Li) 100 = Ma.look Li 100 := look_setK.trans (if_neg (fun (e : xi = 100 ∧ Ma.has Li 100 = true) => h100 e.1))
                          rw [key]
                        · rw [if_neg hjP, if_neg hjP]
                      rw [this]
                      exact k5
                    case measure => simp [intOf]; omega
        · obtain rfl : i = n := by omega
          have HC := Lib.hid hcell
          have HF := Lib.hid hf
          clear hcell hf
          go_wp2
          go_loop [21] (fun iv => ∃ j : Nat, j ≤ i ∧ iv = .int .i64 j) (fun iv => i - (intOf iv).toNat)
          case atStart => exact ⟨0, by omega, rfl⟩
          case round =>
            obtain ⟨j, hj, rfl⟩ := hrel
            by_cases hjn : j < i
            · obtain ⟨y1, y2⟩ := HC.out j hjn
              rw [vis_all hjn] at y1
              go_wp2
              go_round
              case rel => exact ⟨j + 1, by omega, by go_num⟩
              case measure => simp [intOf]; omega
            · obtain rfl : j = i := by omega
              go_wp2_with (go_at_call 8; refine (rides_calls _).mono ?_; rintro e w14 ⟨rfl, hb14⟩)
              go_ret
              have hb0 := HB.out
              have hb1 := h.below
              have h10 := hb0.size
              have h11 := hb1.size
              exact ⟨rfl, (hb0.trans (hb1.mono hb0.size)).trans (hb14.mono (by omega))⟩
theorem round_all (x y : Int) (hx : 0 ≤ x ∧ x ≤ 255) (hy : 0 ≤ y ∧ y ≤ 255) (A A2 : Option Addr) (len cap len2 cap2 : Nat) (xs ys : List Int) (w : World) (hl : len ≤ 9223372036854775807) (hl2 : len2 ≤ 9223372036854775807) (hd : IsBytes w A len xs) (hd2 : IsBytes w A2 len2 ys) : Calls Try.prog 5 #[.agg #[.int .u8 x, .int .u8 y], .slice A len cap, .slice A2 len2 cap2] w fun e w' => e = .returned (.bool true) ∧ Below w.heap.size w w' := by
  by_cases h : 30 < len ∨ 60 < len2
  · exact round_small x y A A2 len cap len2 cap2 w hl hl2 h
  · exact round_at x y hx hy A A2 len cap len2 cap2 xs ys w (by omega) (by omega) hd hd2
end Go.Proofs.Ytfmicncpaaioaaa.Sc
