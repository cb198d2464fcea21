/- Worlds of which few blocks turn, and rows of structs in them: no program. Conditions: none. -/
import Derived.Below
import Derived.Maps.Ext
import Derived.Maps.OwnSet
import Derived.Laws.AppendOwn
import Derived.Shelf.SlSortCmp.WholeK
namespace Go.Proofs.Ytdlmkdldmiiaiaa.Ma
open Go.RowKit
set_option linter.unusedVariables false
set_option linter.unusedSimpArgs false

/-! ### worlds -/
/-- w' is w but for the blocks of S, and new ones. -/
structure Fr (S : Nat → Prop) (w w' : World) : Prop where
  os : w'.os = w.os
  tape : w'.tape = w.tape
  output : w'.output = w.output
  size : w.heap.size ≤ w'.heap.size
  block : ∀ k, k < w.heap.size → ¬ S k → w'.heap[k]? = w.heap[k]?
theorem lt_of_heap {w : World} {k : Nat} {o : Obj} (h : w.heap[k]? = some o) : k < w.heap.size := (Array.getElem?_eq_some_iff.1 h).1
theorem Fr.refl (S : Nat → Prop) (w : World) : Fr S w w := ⟨rfl, rfl, rfl, Nat.le_refl _, fun _ _ _ => rfl⟩
theorem Fr.trans {S : Nat → Prop} {a b c : World} (h : Fr S a b) (k : Fr S b c) : Fr S a c :=
  ⟨k.os.trans h.os, k.tape.trans h.tape, k.output.trans h.output, Nat.le_trans h.size k.size, fun i hi hs => (k.block i (Nat.lt_of_lt_of_le hi h.size) hs).trans (h.block i hi hs)⟩
theorem Fr.mono {S T : Nat → Prop} {w w' : World} (h : Fr S w w') (hS : ∀ k, S k → T k) : Fr T w w' :=
  ⟨h.os, h.tape, h.output, h.size, fun k hk ht => h.block k hk (fun hs => ht (hs |> hS k))⟩
/-- Two steps: what the second turns is new, or of S. -/
theorem Fr.step {S T : Nat → Prop} {a b c : World} (h : Fr S a b) (k : Fr T b c) (hT : ∀ i, T i → S i ∨ a.heap.size ≤ i) : Fr S a c :=
  ⟨k.os.trans h.os, k.tape.trans h.tape, k.output.trans h.output, Nat.le_trans h.size k.size, fun i hi hs => (k.block i (Nat.lt_of_lt_of_le hi h.size) (fun ht => (hT i ht).elim hs (fun h' => by omega))).trans (h.block i hi hs)⟩
theorem Fr.of_below {w w' : World} (h : Below w.heap.size w w') : Fr (fun _ => False) w w' := ⟨h.os, h.tape, h.output, h.size, fun k hk _ => h.block k hk⟩
theorem Fr.of_grown {w w' : World} {b : Nat} (h : w.grownBy w' (some b)) : Fr (fun k => k = b) w w' := ⟨h.os, h.tape, h.output, h.size, fun k hk hs => h.block k hk (fun e => hs (Option.some.inj e))⟩
theorem Fr.alloc (w : World) (o : Obj) : Fr (fun _ => False) w (w.alloc o) := .of_below ((Below.refl _ _).alloc (Nat.le_refl _) _)
theorem Fr.drew (w : World) : Fr (fun _ => False) w w.drew := .of_below ((Below.refl _ _).drew)
theorem Fr.drewN (S : Nat → Prop) (w : World) (n : Nat) : Fr S w { w with drawn := w.drawn + n } := ⟨rfl, rfl, rfl, Nat.le_refl _, fun _ _ _ => rfl⟩
theorem Fr.setCell (w : World) (a : Addr) (u : Value) : Fr (fun k => k = a.block) w (w.setCell a u) := ⟨rfl, rfl, rfl, by simp [World.setCell], fun k hk hs => Below.heap_setCell _ _ _ _ hs⟩
theorem Fr.keep {S : Nat → Prop} {w w' : World} (h : Fr S w w') {k : Nat} {o : Obj} (hk : w.heap[k]? = some o) (hS : ¬ S k) : w'.heap[k]? = some o := (h.block k (lt_of_heap hk) hS).trans hk
theorem Fr.below {S : Nat → Prop} {w w' : World} (h : Fr S w w') {B : Nat} (hB : B ≤ w.heap.size) (hS : ∀ k, S k → B ≤ k) : Below B w w' :=
  ⟨h.os, h.tape, h.output, h.size, fun k hk => h.block k (by omega) (fun hs => by have := hS k hs; omega)⟩
theorem Fr.map {S : Nat → Prop} {w w' : World} (h : Fr S w w') {H : Type} {P : Program} {k : TypeId} {R : Value → Option (DataW H × List MemPlace)} {b n : Nat} {D : DataW H} (hm : w.ownsMap P k R b n D) (hS : ¬ S b) : w'.ownsMap P k R b n D := by
  obtain ⟨es, clock, hb, r⟩ := hm
  exact ⟨es, clock, h.keep hb hS, r⟩
theorem Fr.row {S : Nat → Prop} {w w' : World} (h : Fr S w w') {base e size n : Nat} {v : Value} {xs : List Value} (hm : w.ownsRow base e size v n xs) (hS : ∀ g, v.ownBlock = some g → ¬ S g) : w'.ownsRow base e size v n xs := by
  refine ⟨hm.1, ?_⟩
  rcases hm.2 with hn | ⟨g, cap, cur, rfl, hb, hg, r⟩
  · exact .inl hn
  · exact .inr ⟨g, cap, cur, rfl, hb, h.keep hg (hS g rfl), r⟩
/-- A map is as many entries as its datum has. -/
theorem ownsMap_tight {H : Type} {P : Program} {k : TypeId} {R : Value → Option (DataW H × List MemPlace)} {w : World} {b n : Nat} {D : DataW H} (h : w.ownsMap P k R b n D) : w.ownsMap P k R b (Maps.size D) D := by
  obtain ⟨es, clock, hb, F, hs, rfl⟩ := h
  exact ⟨es, clock, hb, F, by simp [Maps.size, length_sorted], rfl⟩
theorem heap_setCell_at {w : World} {b i : Nat} {cs : Array Value} {T : TypeId} {fz : Nat × Nat} (h : w.heap[b]? = some (.cells cs T fz)) (v : Value) : (w.setCell ⟨b, i, none⟩ v).heap[b]? = some (.cells (cs.setIfInBounds i v) T fz) := by
  simp [World.setCell, Array.getElem?_modify, h]
theorem cell_of_heap {w : World} {b i : Nat} {cs : Array Value} {T : TypeId} {fz : Nat × Nat} {v : Value} (h : w.heap[b]? = some (.cells cs T fz)) (hv : cs[i]? = some v) : w.cell? ⟨b, i, none⟩ = some v := by
  simp [World.cell?, h, hv]
theorem free_of_heap {w : World} {b i : Nat} {cs : Array Value} {T : TypeId} (h : w.heap[b]? = some (.cells cs T (0, 0))) (hi : i < cs.size) : w.frozen? ⟨b, i, none⟩ = false := by
  simp [World.frozen?, h]

theorem alloc3 (w : World) (A B C : Obj) : ∃ W, ((w.alloc A).alloc B).alloc C = W ∧ W.heap[w.heap.size]? = some A ∧ W.heap[w.heap.size + 1]? = some B ∧ W.heap[w.heap.size + 1 + 1]? = some C ∧ W.heap.size = w.heap.size + 3 ∧ Below w.heap.size w W := by
  have s1 : (w.alloc A).heap.size = w.heap.size + 1 := by simp
  have s2 : ((w.alloc A).alloc B).heap.size = w.heap.size + 2 := by simp
  refine ⟨_, rfl, ?_, ?_, ?_, by simp, (((Below.refl _ _).alloc (Nat.le_refl _) _).alloc (by simp) _).alloc (by simp; omega) _⟩
  · rw [Below.heap_alloc _ _ _ (by omega), Below.heap_alloc _ _ _ (by omega)]
    exact heap_alloc_new w A
  · rw [Below.heap_alloc _ _ _ (by omega)]
    have := heap_alloc_new (w.alloc A) B
    rwa [s1] at this
  · have := heap_alloc_new ((w.alloc A).alloc B) C
    rwa [s2] at this
theorem Fr.cell {S : Nat → Prop} {w w' : World} (h : Fr S w w') {k i : Nat} {v : Value} (hv : w.cell? ⟨k, i, none⟩ = some v) (hk : k < w.heap.size) (hS : ¬ S k) : w'.cell? ⟨k, i, none⟩ = some v := by
  have : w'.cell? ⟨k, i, none⟩ = w.cell? ⟨k, i, none⟩ := by simp [World.cell?, h.block k hk hS]
  rw [this, hv]
theorem Fr.frozen {S : Nat → Prop} {w w' : World} (h : Fr S w w') {k i : Nat} {v : Bool} (hv : w.frozen? ⟨k, i, none⟩ = v) (hk : k < w.heap.size) (hS : ¬ S k) : w'.frozen? ⟨k, i, none⟩ = v := by
  have : w'.frozen? ⟨k, i, none⟩ = w.frozen? ⟨k, i, none⟩ := by simp [World.frozen?, h.block k hk hS]
  rw [this, hv]
theorem Fr.of_grownR {w w' : World} {r : Option Nat} (h : w.grownBy w' r) : Fr (fun k => r = some k) w w' := ⟨h.os, h.tape, h.output, h.size, fun k hk hs => h.block k hk (fun e => hs e.symm)⟩
/-- New blocks, then a row that is old, or one of those. -/
theorem Fr.grow {w w1 w2 : World} {r : Option Nat} {S : Nat → Prop} (h : Below w.heap.size w w1) (k : w1.grownBy w2 r) (hr : ∀ i, r = some i → S i ∨ w.heap.size ≤ i) : Fr S w w2 :=
  ((Fr.of_below h).mono (fun _ h => h.elim)).step (Fr.of_grownR k) hr
theorem box_new (w : World) (A : Obj) : ∃ W, w.alloc A = W ∧ W.heap[w.heap.size]? = some A ∧ Below w.heap.size w W ∧ W.heap.size = w.heap.size + 1 := ⟨_, rfl, heap_alloc_new w A, (Below.refl _ _).alloc (Nat.le_refl _) _, by simp⟩
/-! ### rows of structs -/
section
open Go.Sort
variable {α : Type} {enc : α → List Value} {k : Nat}
def cellsK (enc : α → List Value) (L : List α) : List Value := L.flatMap enc
theorem cellsK_append (L M : List α) : cellsK enc (L ++ M) = cellsK enc L ++ cellsK enc M := by simp [cellsK]
theorem cellsK_one (x : α) : cellsK enc [x] = enc x := by simp [cellsK]
theorem cellsK_length (hk : ∀ x, (enc x).length = k) (L : List α) : (cellsK enc L).length = L.length * k := by
  induction L with
  | nil => simp [cellsK]
  | cons y r ih =>
    have : cellsK enc (y :: r) = enc y ++ cellsK enc r := rfl
    rw [this, List.length_append, hk, ih, List.length_cons, Nat.add_mul, Nat.one_mul, Nat.add_comm]
theorem cellsK_at (hk : ∀ x, (enc x).length = k) {L : List α} : ∀ {j : Nat} {x : α} {i : Nat} {u : Value}, L[j]? = some x → (enc x)[i]? = some u → (cellsK enc L)[j * k + i]? = some u := by
  induction L with
  | nil => intro j x i u h; simp at h
  | cons y r ih =>
    intro j x i u h hu
    have e : cellsK enc (y :: r) = enc y ++ cellsK enc r := rfl
    have hi : i < k := by rw [← hk x]; exact (List.getElem?_eq_some_iff.1 hu).1
    cases j with
    | zero =>
      simp at h; subst h
      rw [e, Nat.zero_mul, Nat.zero_add, List.getElem?_append_left (by rw [hk]; exact hi), hu]
    | succ j =>
      rw [e, List.getElem?_append_right (by rw [hk, Nat.add_mul]; omega), hk, Nat.add_mul, Nat.one_mul, show j * k + k + i - k = j * k + i by omega]
      exact ih (by simpa using h) hu
/-- The list lies there, each of its structs in k cells. -/
def Lies (enc : α → List Value) (k : Nat) (w : World) (A : Option Addr) (L : List α) : Prop :=
  ∀ j x, L[j]? = some x → ∃ b o, A = some ⟨b, o, none⟩ ∧ b < w.heap.size ∧ ∀ i u, (enc x)[i]? = some u → w.cell? ⟨b, o + j * k + i, none⟩ = some u
theorem Lies.below {w w' : World} {A : Option Addr} {L : List α} (h : Lies enc k w A L) {B : Nat} (hb : Below B w w') (hB : w.heap.size ≤ B) : Lies enc k w' A L := fun j x hx => by
  obtain ⟨b, o, e, hl, hc⟩ := h j x hx
  exact ⟨b, o, e, Nat.lt_of_lt_of_le hl hb.size, fun i u hu => (hb.cell (p := ⟨b, o + j * k + i, none⟩) (by show b < B; omega)).trans (hc i u hu)⟩
theorem Lies.drewN {w : World} {A : Option Addr} {L : List α} (m : Nat) (h : Lies enc k w A L) : Lies enc k (w.drewN m) A L := h
theorem Lies.fr {S : Nat → Prop} {w w' : World} {A : Option Addr} {L : List α} (h : Lies enc k w A L) (hf : Fr S w w') (hS : ∀ b o, A = some ⟨b, o, none⟩ → ¬ S b) : Lies enc k w' A L := fun j x hx => by
  obtain ⟨b, o, e, hl, hc⟩ := h j x hx
  exact ⟨b, o, e, Nat.lt_of_lt_of_le hl hf.size, fun i u hu => hf.cell (hc i u hu) hl (hS b o e)⟩
theorem Lies.take {w : World} {A : Option Addr} {L : List α} (h : Lies enc k w A L) (n : Nat) : Lies enc k w A (L.take n) := fun j x hx => h j x (by
  rw [List.getElem?_take] at hx
  split at hx
  · exact hx
  · cases hx)
theorem row_open (hk : ∀ x, (enc x).length = k) {w : World} {B n : Nat} {e : TypeId} {v : Value} {xs : List Value} (h : w.ownsRow B e k v n xs) : ∃ A c, v = .slice A n c ∧ n ≤ c ∧ c ≤ 9223372036854775807 := by
  rcases h.2 with ⟨rfl, rfl⟩ | ⟨g, cap, cur, rfl, hb, hg, hc, hm, hcs, hcur⟩
  · exact ⟨none, 0, rfl, by omega, by omega⟩
  · exact ⟨_, cap, rfl, hc, by unfold maxLen at hm; omega⟩
theorem row_lies (hk : ∀ x, (enc x).length = k) {w : World} {B c : Nat} {e : TypeId} {A : Option Addr} {L : List α} (h : w.ownsRow B e k (.slice A L.length c) L.length (cellsK enc L)) : Lies enc k w A L := fun j x hx => by
  have hj := (List.getElem?_eq_some_iff.1 hx).1
  rcases h.2 with ⟨_, hn⟩ | ⟨g, cap, cur, e1, hb, hg, hc, hm, hcs, hcur⟩
  · omega
  · cases e1
    refine ⟨g, 0, rfl, lt_of_heap hg, fun i u hu => ?_⟩
    rw [Nat.zero_add]
    have hat := cellsK_at hk hx hu
    have hi : i < k := by rw [← hk x]; exact (List.getElem?_eq_some_iff.1 hu).1
    have hjk : j * k + i < L.length * k := by
      have := Nat.mul_le_mul_right k (show j + 1 ≤ L.length from hj); rw [Nat.add_mul, Nat.one_mul] at this; omega
    rw [← hcur, List.getElem?_take_of_lt hjk] at hat
    exact cell_of_heap hg (by simpa using hat)
/-- .. in a block of its own. -/
theorem row_own (hk : ∀ x, (enc x).length = k) {w : World} {B : Nat} {e : TypeId} {v : Value} {L : List α} (h : w.ownsRow B e k v L.length (cellsK enc L)) {j : Nat} {x : α} (hx : L[j]? = some x) :
    ∃ g c, v = .slice (some ⟨g, 0, none⟩) L.length c ∧ B ≤ g ∧ g < w.heap.size ∧ L.length ≤ c ∧ c ≤ 9223372036854775807 ∧ ∀ i u, (enc x)[i]? = some u → w.cell? ⟨g, j * k + i, none⟩ = some u ∧ w.frozen? ⟨g, j * k + i, none⟩ = false := by
  have hj := (List.getElem?_eq_some_iff.1 hx).1
  rcases h.2 with ⟨_, hn⟩ | ⟨g, cap, cur, rfl, hb, hg, hc, hm, hcs, hcur⟩
  · omega
  · refine ⟨g, cap, rfl, hb, lt_of_heap hg, hc, by unfold maxLen at hm; omega, fun i u hu => ?_⟩
    have hat := cellsK_at hk hx hu
    have hi : i < k := by rw [← hk x]; exact (List.getElem?_eq_some_iff.1 hu).1
    have hjk : j * k + i < L.length * k := by
      have := Nat.mul_le_mul_right k (show j + 1 ≤ L.length from hj); rw [Nat.add_mul, Nat.one_mul] at this; omega
    rw [← hcur, List.getElem?_take_of_lt hjk] at hat
    have hlt : j * k + i < cur.size := by
      have := (List.getElem?_eq_some_iff.1 hat).1; simpa using this
    exact ⟨cell_of_heap hg (by simpa using hat), free_of_heap hg hlt⟩
theorem row_base {w : World} {B B' n : Nat} {e : TypeId} {v : Value} {xs : List Value} (h : w.ownsRow B e k v n xs) (hB : B' ≤ B) : w.ownsRow B' e k v n xs := by
  refine ⟨h.1, ?_⟩
  rcases h.2 with h1 | ⟨g, cap, cur, e1, hb, r⟩
  · exact .inl h1
  · exact .inr ⟨g, cap, cur, e1, by omega, r⟩
theorem row_empty (w : World) (e : TypeId) (B : Nat) (hB : B ≤ w.heap.size) : (w.alloc (.cells #[] e (0, 0))).ownsRow B e k (.slice (some ⟨w.heap.size, 0, none⟩) 0 0) 0 [] :=
  ⟨by simp, .inr ⟨_, 0, #[], rfl, hB, heap_alloc_new w _, by omega, by unfold maxLen; omega, by simp, by simp⟩⟩
theorem below_grow {w W W' : World} {r : Option Nat} (h : Below w.heap.size w W) (hg : W.grownBy W' r) (hr : ∀ k, r = some k → w.heap.size ≤ k) : Below w.heap.size w W' :=
  h.grown hg h.size hr
/-- A part of a list that lies there, as an append wants it. -/
theorem lies_news (hk : ∀ x, (enc x).length = k) {w W : World} {b o n : Nat} {L : List α} (h : Lies enc k w (some ⟨b, o, none⟩) L) (hb : Below w.heap.size w W) (m : Nat) :
    ∀ j u, (cellsK enc ((L.drop m).take n))[j]? = some u → W.cell? ((⟨b, o + m * k, none⟩ : Addr).add j) = some u := by
  intro j u hu
  have e0 : (⟨b, o + m * k, none⟩ : Addr).add j = ⟨b, o + m * k + j, none⟩ := by
    unfold Addr.add
    split
    · rename_i e; subst e; rfl
    · rfl
  rw [e0]
  have hj := (List.getElem?_eq_some_iff.1 hu).1
  rw [cellsK_length hk] at hj
  have hk0 : 0 < k := by
    rcases Nat.eq_zero_or_pos k with h0 | h0
    · subst h0; simp at hj
    · exact h0
  have hq : j / k < ((L.drop m).take n).length := by rw [Nat.div_lt_iff_lt_mul hk0]; exact hj
  obtain ⟨x, hx⟩ : ∃ x, ((L.drop m).take n)[j / k]? = some x := ⟨_, List.getElem?_eq_getElem hq⟩
  have hm : j % k < (enc x).length := by rw [hk]; exact Nat.mod_lt _ hk0
  have e1 : j / k * k + j % k = j := by rw [Nat.mul_comm]; exact Nat.div_add_mod j k
  have h2 := cellsK_at hk hx (List.getElem?_eq_getElem hm)
  rw [e1, hu] at h2
  have hx2 : L[m + j / k]? = some x := by
    rw [List.getElem?_take] at hx
    split at hx
    · rwa [List.getElem?_drop] at hx
    · cases hx
  obtain ⟨b', o', eb, hl, hc⟩ := h _ _ hx2
  cases eb
  have := hc _ _ (List.getElem?_eq_getElem hm)
  rw [Nat.add_mul, show o + (m * k + j / k * k) + j % k = o + m * k + j by omega] at this
  rw [h2]
  exact (hb.cell (p := ⟨b, o + m * k + j, none⟩) hl).trans this
theorem row_set (hk : ∀ x, (enc x).length = k) {w : World} {B g c j i : Nat} {e : TypeId} {L : List α} {x y : α} {u : Value} (h : w.ownsRow B e k (.slice (some ⟨g, 0, none⟩) L.length c) L.length (cellsK enc L)) (hx : L[j]? = some x) (hi : i < k) (hy : enc y = (enc x).set i u) :
    (w.setCell ⟨g, j * k + i, none⟩ u).ownsRow B e k (.slice (some ⟨g, 0, none⟩) L.length c) L.length (cellsK enc (L.set j y)) := by
  have hj := (List.getElem?_eq_some_iff.1 hx).1
  have hset : ∀ {M : List α} {q : Nat}, M[q]? = some x → (cellsK enc M).set (q * k + i) u = cellsK enc (M.set q y) := by
    intro M
    induction M with
    | nil => intro q h; simp at h
    | cons z r ih =>
      intro q h
      have e2 : cellsK enc (z :: r) = enc z ++ cellsK enc r := rfl
      cases q with
      | zero =>
        simp at h; subst h
        rw [e2, Nat.zero_mul, Nat.zero_add, List.set_append_left _ _ (by rw [hk]; exact hi), ← hy]
        rfl
      | succ q =>
        rw [e2, List.set_append_right _ _ (by rw [hk, Nat.add_mul]; omega), hk, Nat.add_mul, Nat.one_mul, show q * k + k + i - k = q * k + i by omega, ih (by simpa using h)]
        rfl
  refine ⟨by rw [cellsK_length hk, List.length_set], ?_⟩
  rcases h.2 with ⟨e1, _⟩ | ⟨g', cap, cur, e1, hb, hg, hc, hm, hcs, hcur⟩
  · cases e1
  · cases e1
    refine .inr ⟨g, c, cur.setIfInBounds (j * k + i) u, rfl, hb, heap_setCell_at hg _, hc, hm, by simpa using hcs, ?_⟩
    rw [← hset hx, ← hcur, Array.toList_setIfInBounds, List.take_set]
theorem setMany_list : ∀ (vs : List Value) (F : Array Value) (o : Nat), o + vs.length ≤ F.size → (setMany F o vs).toList = F.toList.take o ++ vs ++ F.toList.drop (o + vs.length)
  | [], F, o, h => by simp [setMany]
  | v :: r, F, o, h => by
    simp only [List.length_cons] at h
    rw [setMany, setMany_list r _ _ (by simp; omega), Array.toList_setIfInBounds, List.take_set, List.drop_set]
    have e1 : (F.toList.take (o + 1)).set o v = F.toList.take o ++ [v] := by
      rw [List.take_succ_eq_append_getElem (by simp; omega), List.set_append_right _ _ (by simp; omega)]
      simp [show o ≤ F.size by omega]
    rw [e1, if_pos (by omega)]
    simp [show o + 1 + r.length = o + (r.length + 1) by omega]
theorem heap_setCells_at : ∀ (vs : List Value) {w : World} {b o : Nat} {cs : Array Value} {T : TypeId} {fz : Nat × Nat}, w.heap[b]? = some (.cells cs T fz) → (w.setCells b o vs).heap[b]? = some (.cells (setMany cs o vs) T fz)
  | [], _, _, _, _, _, _, h => h
  | v :: r, w, b, o, cs, T, fz, h => by
    rw [World.setCells, setMany]
    exact heap_setCells_at r (heap_setCell_at h v)
theorem Fr.setCells : ∀ (vs : List Value) (w : World) (b o : Nat), Fr (fun k => k = b) w (w.setCells b o vs)
  | [], w, b, o => Fr.refl _ w
  | v :: r, w, b, o => by
    rw [World.setCells]
    exact (Fr.setCell w ⟨b, o, none⟩ v).trans (Fr.setCells r _ b (o + 1))
/-- The first cells of a row, another list. -/
theorem row_cut (hk : ∀ x, (enc x).length = k) {w : World} {B g c : Nat} {e : TypeId} {cur : Array Value} {M : List α} (hB : B ≤ g) (hg : w.heap[g]? = some (.cells cur e (0, 0))) (hc : M.length ≤ c) (hm : c ≤ maxLen) (hs : cur.size = c * k) (ht : cur.toList.take (M.length * k) = cellsK enc M) : w.ownsRow B e k (.slice (some ⟨g, 0, none⟩) M.length c) M.length (cellsK enc M) :=
  ⟨cellsK_length hk M, .inr ⟨g, c, cur, rfl, hB, hg, hc, hm, hs, ht⟩⟩
/-- A row that the call owns, as the sort wants it. -/
theorem row_holds [Inhabited α] (hk : ∀ x, (enc x).length = k) {w : World} {B g c : Nat} {e : TypeId} {L : List α} (h : w.ownsRow B e k (.slice (some ⟨g, 0, none⟩) L.length c) L.length (cellsK enc L)) : HoldsK enc k w g 0 L.toArray := by
  intro t ht
  rw [size_flatK] at ht
  have hk0 : 0 < k := by
    rcases Nat.eq_zero_or_pos k with h0 | h0
    · subst h0; simp at ht
    · exact h0
  have hq : t / k < L.length := by rw [Nat.div_lt_iff_lt_mul hk0]; simpa using ht
  have hx : L[t / k]? = some (L[t / k]'hq) := List.getElem?_eq_getElem hq
  have hm : t % k < (enc (L[t / k]'hq)).length := by rw [hk]; exact Nat.mod_lt _ hk0
  obtain ⟨g', c', e1, _, _, _, _, hc⟩ := row_own hk h hx
  cases e1
  have := hc _ _ (List.getElem?_eq_getElem hm)
  rw [show t / k * k + t % k = t by rw [Nat.mul_comm]; exact Nat.div_add_mod t k] at this
  rw [get_flatK _ _ _ _ (by simpa using ht), Nat.zero_add]
  have e2 : (L.toArray)[t / k]! = L[t / k]'hq := by simp [hq]
  have e3 : (enc (L[t / k]'hq))[t % k]! = (enc (L[t / k]'hq))[t % k]'hm := by simp [hm]
  rw [e2, e3]
  exact this
theorem heap_putRow {w : World} {g : Nat} {cur : Array Value} {e : TypeId} (n off : Nat) (F : Array Value) (hg : w.heap[g]? = some (.cells cur e (0, 0))) : (putRow id (Sort.ahead w n) g off F).heap[g]? = some (.cells (putCells id off F cur) e (0, 0)) := by
  simp [putRow, mapBlock, Sort.ahead, Array.getElem?_modify, hg, onCells]
/-- A row behind the sort. -/
theorem row_sorted [Inhabited α] (hk : ∀ x, (enc x).length = k) {w : World} {B g c n : Nat} {e : TypeId} {L : List α} {d' : Array α} {os : Array Obj} (h : w.ownsRow B e k (.slice (some ⟨g, 0, none⟩) L.length c) L.length (cellsK enc L)) (hs : d'.size = L.length) :
    (sortWorldK enc k w g 0 n d' os).ownsRow B e k (.slice (some ⟨g, 0, none⟩) L.length c) L.length (cellsK enc d'.toList) ∧ Fr (fun i => i = g) w (sortWorldK enc k w g 0 n d' os) := by
  rcases h.2 with ⟨e1, _⟩ | ⟨g', cap, cur, e1, hb, hg, hc, hm, hcs, hcur⟩
  · cases e1
  cases e1
  have hgl := lt_of_heap hg
  have hp := heap_putRow n 0 (flatK enc k d') hg
  have hg2 : (sortWorldK enc k w g 0 n d' os).heap[g]? = some (.cells (putCells id 0 (flatK enc k d') cur) e (0, 0)) := by
    unfold sortWorldK putRowK
    rw [heap_grow_old _ _ (lt_of_heap hp), hp]
  refine ⟨⟨by rw [cellsK_length hk, Array.length_toList, hs], .inr ⟨g, c, _, rfl, hb, hg2, hc, hm, by simpa [putCells] using hcs, ?_⟩⟩, ?_⟩
  · have hle : L.length * k ≤ cur.size := by rw [hcs]; exact Nat.mul_le_mul_right k hc
    refine List.ext_getElem? fun t => ?_
    by_cases ht : t < L.length * k
    · have hk0 : 0 < k := by
        rcases Nat.eq_zero_or_pos k with h0 | h0
        · subst h0; simp at ht
        · exact h0
      have hq : t / k < d'.size := by rw [hs, Nat.div_lt_iff_lt_mul hk0]; exact ht
      have hx : d'.toList[t / k]? = some d'[t / k]! := by simp [hq]
      have hmm : t % k < (enc d'[t / k]!).length := by rw [hk]; exact Nat.mod_lt _ hk0
      have hat := cellsK_at hk hx (List.getElem?_eq_getElem hmm)
      rw [show t / k * k + t % k = t by rw [Nat.mul_comm]; exact Nat.div_add_mod t k] at hat
      rw [hat, List.getElem?_take_of_lt ht]
      have htc : t < cur.size := by omega
      have e5 := get_flatK enc k d' t (by rw [hs]; exact ht)
      simp only [putCells, Array.getElem?_toList, Array.getElem?_mapIdx, Array.getElem?_eq_getElem htc, Option.map_some, size_flatK, hs, Nat.zero_add, Nat.zero_le, true_and, ht, if_true, Nat.sub_zero, id]
      rw [e5]
      simp [hmm]
    · rw [List.getElem?_eq_none (by simp; omega), List.getElem?_eq_none (by rw [cellsK_length hk, Array.length_toList, hs]; omega)]
  · refine ⟨rfl, rfl, rfl, ?_, fun i hi hne => ?_⟩
    · show w.heap.size ≤ (grow (putRow id (Sort.ahead w n) g 0 (flatK enc k d')) os).heap.size
      rw [size_grow]
      simp [putRow, mapBlock, Sort.ahead]
    · show (grow (putRow id (Sort.ahead w n) g 0 (flatK enc k d')) os).heap[i]? = _
      rw [heap_grow_old _ _ (by simp [putRow, mapBlock, Sort.ahead]; exact hi)]
      have : ¬ g = i := fun e => hne e.symm
      simp [putRow, mapBlock, Sort.ahead, Array.getElem?_modify, this]
end
end Go.Proofs.Ytdlmkdldmiiaiaa.Ma
