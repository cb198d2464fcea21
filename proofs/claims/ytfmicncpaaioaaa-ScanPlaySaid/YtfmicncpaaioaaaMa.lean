/- Plain lemmas on lists of who is attached, and on worlds of which few blocks turn: no program. Conditions: none. -/
import Derived.Below
import Derived.Maps.Ext
import Derived.Maps.OwnSet
import Derived.Lib.SlKeysI
namespace Go.Proofs.Ytfmicncpaaioaaa.Ma
open Go.RowKit
set_option linter.unusedVariables false
set_option linter.unusedSimpArgs false

/-! ### worlds -/
/-- w' is w but for the blocks of S, and new ones. -/
structure Fr (S : Nat → Prop) (w w' : World) : Prop where
  os : w'.os = w.os
  tape : w'.tape = w.tape
  output : w'.output = w.output
  size : w.heap.size ≤ w'.heap.size
  block : ∀ k, k < w.heap.size → ¬ S k → w'.heap[k]? = w.heap[k]?
theorem lt_of_heap {w : World} {k : Nat} {o : Obj} (h : w.heap[k]? = some o) : k < w.heap.size := (Array.getElem?_eq_some_iff.1 h).1
theorem Fr.refl (S : Nat → Prop) (w : World) : Fr S w w := ⟨rfl, rfl, rfl, Nat.le_refl _, fun _ _ _ => rfl⟩
theorem Fr.trans {S : Nat → Prop} {a b c : World} (h : Fr S a b) (k : Fr S b c) : Fr S a c :=
  ⟨k.os.trans h.os, k.tape.trans h.tape, k.output.trans h.output, Nat.le_trans h.size k.size, fun i hi hs => (k.block i (Nat.lt_of_lt_of_le hi h.size) hs).trans (h.block i hi hs)⟩
theorem Fr.mono {S T : Nat → Prop} {w w' : World} (h : Fr S w w') (hS : ∀ k, S k → T k) : Fr T w w' :=
  ⟨h.os, h.tape, h.output, h.size, fun k hk ht => h.block k hk (fun hs => ht (hs |> hS k))⟩
/-- Two steps: what the second turns is new, or of S. -/
theorem Fr.step {S T : Nat → Prop} {a b c : World} (h : Fr S a b) (k : Fr T b c) (hT : ∀ i, T i → S i ∨ a.heap.size ≤ i) : Fr S a c :=
  ⟨k.os.trans h.os, k.tape.trans h.tape, k.output.trans h.output, Nat.le_trans h.size k.size, fun i hi hs => (k.block i (Nat.lt_of_lt_of_le hi h.size) (fun ht => (hT i ht).elim hs (fun h' => by omega))).trans (h.block i hi hs)⟩
theorem Fr.of_below {w w' : World} (h : Below w.heap.size w w') : Fr (fun _ => False) w w' := ⟨h.os, h.tape, h.output, h.size, fun k hk _ => h.block k hk⟩
theorem Fr.of_grown {w w' : World} {b : Nat} (h : w.grownBy w' (some b)) : Fr (fun k => k = b) w w' := ⟨h.os, h.tape, h.output, h.size, fun k hk hs => h.block k hk (fun e => hs (Option.some.inj e))⟩
theorem Fr.alloc (w : World) (o : Obj) : Fr (fun _ => False) w (w.alloc o) := .of_below ((Below.refl _ _).alloc (Nat.le_refl _) _)
theorem Fr.drew (w : World) : Fr (fun _ => False) w w.drew := .of_below ((Below.refl _ _).drew)
theorem Fr.drewN (S : Nat → Prop) (w : World) (n : Nat) : Fr S w { w with drawn := w.drawn + n } := ⟨rfl, rfl, rfl, Nat.le_refl _, fun _ _ _ => rfl⟩
theorem Fr.setCell (w : World) (a : Addr) (u : Value) : Fr (fun k => k = a.block) w (w.setCell a u) := ⟨rfl, rfl, rfl, by simp [World.setCell], fun k hk hs => Below.heap_setCell _ _ _ _ hs⟩
theorem Fr.keep {S : Nat → Prop} {w w' : World} (h : Fr S w w') {k : Nat} {o : Obj} (hk : w.heap[k]? = some o) (hS : ¬ S k) : w'.heap[k]? = some o := (h.block k (lt_of_heap hk) hS).trans hk
theorem Fr.below {S : Nat → Prop} {w w' : World} (h : Fr S w w') {B : Nat} (hB : B ≤ w.heap.size) (hS : ∀ k, S k → B ≤ k) : Below B w w' :=
  ⟨h.os, h.tape, h.output, h.size, fun k hk => h.block k (by omega) (fun hs => by have := hS k hs; omega)⟩
theorem Fr.map {S : Nat → Prop} {w w' : World} (h : Fr S w w') {H : Type} {P : Program} {k : TypeId} {R : Value → Option (DataW H × List MemPlace)} {b n : Nat} {D : DataW H} (hm : w.ownsMap P k R b n D) (hS : ¬ S b) : w'.ownsMap P k R b n D := by
  obtain ⟨es, clock, hb, r⟩ := hm
  exact ⟨es, clock, h.keep hb hS, r⟩
theorem Fr.row {S : Nat → Prop} {w w' : World} (h : Fr S w w') {base e size n : Nat} {v : Value} {xs : List Value} (hm : w.ownsRow base e size v n xs) (hS : ∀ g, v.ownBlock = some g → ¬ S g) : w'.ownsRow base e size v n xs := by
  refine ⟨hm.1, ?_⟩
  rcases hm.2 with hn | ⟨g, cap, cur, rfl, hb, hg, r⟩
  · exact .inl hn
  · exact .inr ⟨g, cap, cur, rfl, hb, h.keep hg (hS g rfl), r⟩
/-- A map is as many entries as its datum has. -/
theorem ownsMap_tight {H : Type} {P : Program} {k : TypeId} {R : Value → Option (DataW H × List MemPlace)} {w : World} {b n : Nat} {D : DataW H} (h : w.ownsMap P k R b n D) : w.ownsMap P k R b (Maps.size D) D := by
  obtain ⟨es, clock, hb, F, hs, rfl⟩ := h
  exact ⟨es, clock, hb, F, by simp [Maps.size, length_sorted], rfl⟩
theorem heap_setCell_at {w : World} {b i : Nat} {cs : Array Value} {T : TypeId} {fz : Nat × Nat} (h : w.heap[b]? = some (.cells cs T fz)) (v : Value) : (w.setCell ⟨b, i, none⟩ v).heap[b]? = some (.cells (cs.setIfInBounds i v) T fz) := by
  simp [World.setCell, Array.getElem?_modify, h]
theorem cell_of_heap {w : World} {b i : Nat} {cs : Array Value} {T : TypeId} {fz : Nat × Nat} {v : Value} (h : w.heap[b]? = some (.cells cs T fz)) (hv : cs[i]? = some v) : w.cell? ⟨b, i, none⟩ = some v := by
  simp [World.cell?, h, hv]
theorem free_of_heap {w : World} {b i : Nat} {cs : Array Value} {T : TypeId} (h : w.heap[b]? = some (.cells cs T (0, 0))) (hi : i < cs.size) : w.frozen? ⟨b, i, none⟩ = false := by
  simp [World.frozen?, h]

theorem alloc3 (w : World) (A B C : Obj) : ∃ W, ((w.alloc A).alloc B).alloc C = W ∧ W.heap[w.heap.size]? = some A ∧ W.heap[w.heap.size + 1]? = some B ∧ W.heap[w.heap.size + 1 + 1]? = some C ∧ W.heap.size = w.heap.size + 3 ∧ Below w.heap.size w W := by
  have s1 : (w.alloc A).heap.size = w.heap.size + 1 := by simp
  have s2 : ((w.alloc A).alloc B).heap.size = w.heap.size + 2 := by simp
  refine ⟨_, rfl, ?_, ?_, ?_, by simp, (((Below.refl _ _).alloc (Nat.le_refl _) _).alloc (by simp) _).alloc (by simp; omega) _⟩
  · rw [Below.heap_alloc _ _ _ (by omega), Below.heap_alloc _ _ _ (by omega)]
    exact heap_alloc_new w A
  · rw [Below.heap_alloc _ _ _ (by omega)]
    have := heap_alloc_new (w.alloc A) B
    rwa [s1] at this
  · have := heap_alloc_new ((w.alloc A).alloc B) C
    rwa [s2] at this
/-! ### who is attached, and does it wait -/
abbrev Ent := Int × Bool
abbrev datE (p : Ent) : Lit × DataW Unit := (.int .i64 p.1, .lit (.bool p.2))
def mk (L : List Ent) : DataW Unit := .map (L.map datE)
def has (L : List Ent) (k : Int) : Bool := L.any (fun p => p.1 == k)
def look (L : List Ent) (k : Int) : Bool := match L.find? (fun p => p.1 == k) with | some p => p.2 | none => false
def ins (k : Int) (v : Bool) : List Ent → List Ent
  | [] => [(k, v)]
  | y :: r => if k < y.1 then (k, v) :: y :: r else y :: ins k v r
def del (k : Int) (L : List Ent) : List Ent := L.filter (fun p => !(p.1 == k))
def setK (k : Int) (v : Bool) (L : List Ent) : List Ent := L.map (fun p => if p.1 = k then (k, v) else p)
def allT (L : List Ent) : List Ent := L.map (fun p => (p.1, true))
abbrev Rising (L : List Ent) : Prop := L.Pairwise (fun p q => p.1 < q.1)
theorem insert_mk (k : Int) (v : Bool) (L : List Ent) : DataW.insert (datE (k, v)) (L.map datE) = (ins k v L).map datE := by
  induction L with
  | nil => rfl
  | cons y r ih =>
    simp only [List.map_cons, DataW.insert, Lit.before, ins]
    by_cases h : k < y.1
    · simp [h]
    · simp [h, ih]
theorem filter_mk (k : Int) (L : List Ent) : (L.map datE).filter (fun p => !p.1.sameKey (.int .i64 k)) = (del k L).map datE := by
  unfold del
  rw [List.filter_map]
  congr 1
  apply List.filter_congr
  intro p _
  simp only [Lit.sameKey, Function.comp, true_and, Bool.not_eq_eq_eq_not, datE]
  rw [Bool.eq_iff_iff]; simp
theorem mk_put (k : Int) (v : Bool) (L : List Ent) : (mk L).put (.int .i64 k) (.lit (.bool v)) = mk (ins k v (del k L)) := by
  simp only [mk, DataW.put, filter_mk]
  rw [← insert_mk]
theorem mk_del (k : Int) (L : List Ent) : (mk L).del (.int .i64 k) = mk (del k L) := by
  simp only [mk, DataW.del, filter_mk]
theorem mk_find (k : Int) (L : List Ent) : (L.map datE).find? (fun p => p.1.sameKey (.int .i64 k)) = (L.find? (fun p => p.1 == k)).map datE := by
  rw [List.find?_map]
  congr 1
  congr 1
  funext p
  simp only [Lit.sameKey, Function.comp, true_and, datE]
  rw [Bool.eq_iff_iff]; simp
theorem mk_at (k : Int) (L : List Ent) : (mk L).atKey (.int .i64 k) (.lit (.bool false)) = .lit (.bool (look L k)) := by
  simp only [mk, DataW.atKey, mk_find, look]
  cases L.find? (fun p => p.1 == k) <;> rfl
theorem mk_has (k : Int) (L : List Ent) : Maps.has (mk L) (.int .i64 k) = has L k := by
  simp only [mk, Maps.has, has, List.any_map]
  congr 1
  funext p
  simp only [Lit.sameKey, Function.comp, true_and, datE]
  rw [Bool.eq_iff_iff]; simp
theorem mk_size (L : List Ent) : Maps.size (mk L) = L.length := by simp [mk, Maps.size]
theorem mk_keys (L : List Ent) : intKeys (mk L) = L.map Prod.fst := by simp [mk, intKeys, Go.intOf, Function.comp_def]
theorem sorted_keys {L : List Ent} (h : Rising L) : (L.map Prod.fst).mergeSort leI = L.map Prod.fst := by
  apply List.mergeSort_of_pairwise
  rw [List.pairwise_map]
  exact h.imp (fun {a b} h => by simp only [leI, decide_eq_true_eq]; omega)
theorem has_iff {L : List Ent} {k : Int} : has L k = true ↔ ∃ p ∈ L, p.1 = k := by simp [has]
theorem has_false {L : List Ent} {k : Int} : has L k = false ↔ ∀ p ∈ L, p.1 ≠ k := by simp [has]
theorem look_cons (y : Ent) (r : List Ent) (k : Int) : look (y :: r) k = if y.1 = k then y.2 else look r k := by
  unfold look
  rw [List.find?_cons]
  by_cases h : y.1 = k
  · simp [h]
  · have : (y.1 == k) = false := by simpa using h
    simp [h, this]
theorem look_mem {L : List Ent} (hr : Rising L) {p : Ent} (hp : p ∈ L) : look L p.1 = p.2 := by
  induction L with
  | nil => cases hp
  | cons y r ih =>
    rw [look_cons]
    rcases List.mem_cons.1 hp with rfl | h
    · simp
    · have := (List.pairwise_cons.1 hr).1 p h
      rw [if_neg (by omega)]
      exact ih (List.pairwise_cons.1 hr).2 h
theorem look_out {L : List Ent} {k : Int} (h : ∀ p ∈ L, p.1 ≠ k) : look L k = false := by
  induction L with
  | nil => rfl
  | cons y r ih => rw [look_cons, if_neg (h y (by simp))]; exact ih (fun p hp => h p (by simp [hp]))
theorem del_out {L : List Ent} {k : Int} (h : ∀ p ∈ L, p.1 ≠ k) : del k L = L := by
  unfold del
  rw [List.filter_eq_self]
  intro p hp
  simpa using h p hp
theorem mem_ins {k : Int} {v : Bool} {L : List Ent} {p : Ent} : p ∈ ins k v L ↔ p = (k, v) ∨ p ∈ L := by
  induction L with
  | nil => simp [ins]
  | cons y r ih =>
    unfold ins
    by_cases h : k < y.1
    · simp [h]
    · simp only [h, if_false, List.mem_cons, ih]
      constructor
      · rintro (h | h | h) <;> simp [h]
      · rintro (h | h | h) <;> simp [h]
theorem rising_ins {k : Int} {v : Bool} {L : List Ent} (h : Rising L) (hk : ∀ p ∈ L, p.1 ≠ k) : Rising (ins k v L) := by
  induction L with
  | nil => simp [ins]
  | cons y r ih =>
    have h' := List.pairwise_cons.1 h
    have hy := hk y (by simp)
    unfold ins
    by_cases e : k < y.1
    · rw [if_pos e]
      refine List.pairwise_cons.2 ⟨fun p hp => ?_, h⟩
      rcases List.mem_cons.1 hp with rfl | hp
      · exact e
      · have := h'.1 p hp
        show k < p.1
        omega
    · rw [if_neg e]
      refine List.pairwise_cons.2 ⟨fun p hp => ?_, ih h'.2 (fun p hp => hk p (by simp [hp]))⟩
      rcases mem_ins.1 hp with rfl | hp
      · show y.1 < k
        omega
      · exact h'.1 p hp
theorem length_ins (k : Int) (v : Bool) (L : List Ent) : (ins k v L).length = L.length + 1 := by
  induction L with
  | nil => rfl
  | cons y r ih => unfold ins; split <;> simp [ih]
theorem rising_del {L : List Ent} (h : Rising L) (k : Int) : Rising (del k L) := h.filter _
theorem mem_del {L : List Ent} {k : Int} {p : Ent} : p ∈ del k L ↔ p ∈ L ∧ p.1 ≠ k := by simp [del]
theorem length_del_le (L : List Ent) (k : Int) : (del k L).length ≤ L.length := List.length_filter_le _ _
theorem length_del {L : List Ent} (h : Rising L) {k : Int} (hk : has L k = true) : (del k L).length + 1 = L.length := by
  induction L with
  | nil => simp [has] at hk
  | cons y r ih =>
    have h' := List.pairwise_cons.1 h
    by_cases e : y.1 = k
    · have hr : ∀ p ∈ r, p.1 ≠ k := fun p hp => by have := h'.1 p hp; omega
      have e2 : del k (y :: r) = del k r := by unfold del; rw [List.filter_cons, if_neg (by simp [e])]
      rw [e2, del_out hr]; rfl
    · have e2 : del k (y :: r) = y :: del k r := by unfold del; rw [List.filter_cons, if_pos (by simp [e])]
      rw [e2]
      have : has r k = true := by
        obtain ⟨p, hp, hpk⟩ := has_iff.1 hk
        rcases List.mem_cons.1 hp with rfl | hp
        · exact absurd hpk e
        · exact has_iff.2 ⟨p, hp, hpk⟩
      have := ih h'.2 this
      simp only [List.length_cons]; omega
/-- An entry that is there, written anew. -/
theorem ins_del {L : List Ent} (h : Rising L) {k : Int} {v : Bool} (hk : has L k = true) : ins k v (del k L) = setK k v L := by
  induction L with
  | nil => simp [has] at hk
  | cons y r ih =>
    have h' := List.pairwise_cons.1 h
    by_cases e : y.1 = k
    · have hr : ∀ p ∈ r, p.1 ≠ k := fun p hp => by have := h'.1 p hp; omega
      have e2 : del k (y :: r) = del k r := by unfold del; rw [List.filter_cons, if_neg (by simp [e])]
      have e3 : setK k v (y :: r) = (k, v) :: r := by
        simp only [setK, List.map_cons, if_pos e]
        congr 1
        refine (List.map_congr_left (fun p hp => ?_)).trans (List.map_id r)
        rw [if_neg (hr p hp)]; rfl
      rw [e2, e3, del_out hr]
      cases r with
      | nil => rfl
      | cons z s =>
        have := h'.1 z (by simp)
        unfold ins
        rw [if_pos (by omega)]
    · have e2 : del k (y :: r) = y :: del k r := by unfold del; rw [List.filter_cons, if_pos (by simp [e])]
      have hk' : has r k = true := by
        obtain ⟨p, hp, hpk⟩ := has_iff.1 hk
        rcases List.mem_cons.1 hp with rfl | hp
        · exact absurd hpk e
        · exact has_iff.2 ⟨p, hp, hpk⟩
      obtain ⟨p, hp, hpk⟩ := has_iff.1 hk'
      have := h'.1 p hp
      rw [e2]
      unfold ins
      rw [if_neg (by omega), ih h'.2 hk']
      simp only [setK, List.map_cons, if_neg e]
theorem rising_setK {L : List Ent} (h : Rising L) (k : Int) (v : Bool) : Rising (setK k v L) := by
  unfold setK
  rw [Rising, List.pairwise_map]
  refine h.imp (fun {a b} hab => ?_)
  split <;> split <;> simp_all
theorem length_setK (k : Int) (v : Bool) (L : List Ent) : (setK k v L).length = L.length := by simp [setK]
theorem rising_allT {L : List Ent} (h : Rising L) : Rising (allT L) := by
  unfold allT
  rw [Rising, List.pairwise_map]
  exact h
theorem length_allT (L : List Ent) : (allT L).length = L.length := by simp [allT]
/-- What may be: rising, at most four, their numbers of their kind. -/
structure Ok (L : List Ent) : Prop where
  rising : Rising L
  len : L.length ≤ 4
  wf : ∀ p ∈ L, (Lit.int .i64 p.1).wf = true
theorem Ok.nil : Ok [] := ⟨List.Pairwise.nil, by simp, (fun p hp => by cases hp)⟩
theorem Ok.ins {k : Int} {v : Bool} {L : List Ent} (h : Ok L) (hw : (Lit.int .i64 k).wf = true) (hk : has L k = false) (hl : L.length < 4) : Ok (ins k v L) :=
  ⟨rising_ins h.rising (has_false.1 hk), by rw [length_ins]; omega, fun p hp => by
    rcases mem_ins.1 hp with rfl | hp
    · exact hw
    · exact h.wf p hp⟩
theorem Ok.del {k : Int} {L : List Ent} (h : Ok L) : Ok (del k L) := ⟨rising_del h.rising k, Nat.le_trans (length_del_le L k) h.len, fun p hp => h.wf p (mem_del.1 hp).1⟩
theorem Ok.setK {k : Int} {v : Bool} {L : List Ent} (h : Ok L) : Ok (setK k v L) :=
  ⟨rising_setK h.rising k v, by rw [length_setK]; exact h.len, fun p hp => by
    obtain ⟨q, hq, e⟩ := List.mem_map.1 hp
    by_cases hk : q.1 = k
    · rw [if_pos hk] at e
      rw [← e, ← hk]
      exact h.wf q hq
    · rw [if_neg hk] at e
      rw [← e]
      exact h.wf q hq⟩
theorem Ok.allT {L : List Ent} (h : Ok L) : Ok (allT L) :=
  ⟨rising_allT h.rising, by rw [length_allT]; exact h.len, fun p hp => by
    obtain ⟨q, hq, rfl⟩ := List.mem_map.1 hp
    exact h.wf q hq⟩
/-- Those that are so. -/
def idsOf (all : Bool) (L : List Ent) : List Int := (L.filter fun p => all || p.2).map Prod.fst
end Go.Proofs.Ytfmicncpaaioaaa.Ma
