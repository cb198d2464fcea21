/- Arguments that are acts, lists of acts, and lists of texts, opened to cells. Conditions: none but that they read. -/
import Derived.Deep.Slices
import Derived.Deep.Fields
import Derived.ChangeSame
import Derived.ChangeArms
import Derived.WideShapes
import Derived.SliceStrings
import Derived.OpenShut
import Derived.ShutString
import Derived.Lib.SmallJoins
import Derived.Test.YtnpdnnaemfdinaaNol
namespace Go.Proofs.Ytnpdnnaemfdinaa.F
open Go.ChangeShapes Go.WideShapes Go.Deep Go.RowKit Go.Joins Go.Sort Go.Shelf
open Go.Proofs.Ytnpdnnaemfdinaa.Ma
set_option linter.unusedVariables false
set_option linter.unusedSimpArgs false
theorem spot_none {w : World} {a : Addr} {v : Value} (h : w.cell? a = some v) : a.spot = none := by
  obtain ⟨e, n, _, _, hs⟩ := World.shape?_of_cell? h
  exact hs
theorem add_flat {a : Addr} (h : a.spot = none) (k : Nat) : a.add k = ⟨a.block, a.off + k, none⟩ := by
  obtain ⟨b, o, s⟩ := a
  dsimp only at h
  subst h
  unfold Addr.add
  split
  · rename_i e; subst e; rfl
  · rfl
theorem add_block (a : Addr) (k : Nat) : (a.add k).block = a.block := by
  unfold Addr.add
  split <;> rfl
section
variable {H : Type} {enc : TypeId × Value → H} {P : Program} {w : World} {base : Nat} {spare : Nat → Bool} {held : Bool}
theorem open_fields {t : TypeId} {fs : Array Field} {fuel : Nat} {cs : List Value} {x : DataW H × List MemPlace} (he : P.underlying t = some (.struct fs))
    (hone : oneCellFields P fs = true) (hC : P.cellsOf t = fs.size) (h : DataW.trod enc P w base spare held fuel t cs = some x) :
    cs.length = fs.size ∧ ∀ (j : Nat) (f : Field), fs[j]? = some f → ∃ (v : Value) (y : DataW H × List MemPlace) (n : Nat), cs[j]? = some v ∧ DataW.trod enc P w base spare held n f.type [v] = some y := by
  obtain ⟨ys, n', hn', hy, hlen, hyl, hf⟩ := DataW.trod_struct he h
  have hl : cs.length = fs.size := by rw [← hC]; exact hlen
  refine ⟨hl, fun j f hj => ?_⟩
  obtain ⟨ho, hk⟩ := hone_of hone j f hj
  have hjl : j < fs.size := (Array.getElem?_eq_some_iff.1 hj).1
  have hv : cs[j]? = some (cs[j]'(by omega)) := List.getElem?_eq_getElem (by omega)
  have h1 := hf j f hj
  rw [ho, hk] at h1
  have hone' : (cs.drop j).take 1 = [cs[j]'(by omega)] := by
    rw [List.drop_eq_getElem_cons (by omega)]
    rfl
  rw [hone'] at h1
  have hys : ys[j]? = some (ys[j]'(by omega)) := List.getElem?_eq_getElem (by omega)
  exact ⟨_, _, _, hv, h1.trans hys⟩
theorem open_slice_fields {t e : TypeId} {fs : Array Field} {fuel : Nat} {cs : List Value} {x : DataW H × List MemPlace} (ht : P.underlying t = some (.slice e)) (he : P.underlying e = some (.struct fs))
    (hone : oneCellFields P fs = true) (hC : P.cellsOf e = fs.size) (h : DataW.trod enc P w base spare held fuel t cs = some x) :
    (cs = [.slice none 0 0]) ∨
    ∃ (a : Addr) (len cap : Nat), cs = [.slice (some a) len cap] ∧ len ≤ cap ∧ cap ≤ maxLen ∧
      ∀ i, i < len → ∀ (j : Nat) (f : Field), fs[j]? = some f → ∃ (v : Value) (y : DataW H × List MemPlace) (n : Nat), w.cell? (a.add (i * fs.size + j)) = some v ∧ DataW.trod enc P w base spare held n f.type [v] = some y := by
  rcases open_slice ht h with h0 | ⟨a, len, cap, m, n, D, Pl, hcs, hb, hl, hm, hmm, hx, hi⟩
  · exact .inl h0.1
  · refine .inr ⟨a, len, cap, hcs, hl, hm, fun i him j f hj => ?_⟩
    have hil : i < m := by
      rw [hmm]
      split <;> omega
    obtain ⟨cs', hc, ht'⟩ := hi i hil
    rw [hC] at hc
    obtain ⟨_, hcl, hat⟩ := World.cells?_some hc
    obtain ⟨_, hf⟩ := open_fields he hone hC ht'
    obtain ⟨v, y, n', hv, hy⟩ := hf j f hj
    have hjl : j < fs.size := (Array.getElem?_eq_some_iff.1 hj).1
    have hcell := hat j hjl
    refine ⟨v, y, n', ?_, hy⟩
    rw [← Go.Deep.add_add, hcell, hv]
end
section
variable {H : Type} {enc : TypeId × Value → H} {W : World}
theorem texts_of {v : Value} {x : DataW H × List MemPlace} {n : Nat} (h : DataW.trod enc Try.prog W 0 (fun _ => true) true n 28 [v] = some x) :
    ∃ (A : Option Addr) (c : Nat) (L : List ByteArray), v = .slice A L.length c ∧ L.length ≤ maxLen ∧ Lies encS 1 W A L := by
  rcases open_strings Try.underlying28 Try.underlying9 (by kernel_rfl) h with ⟨hcs, _⟩ | ⟨a, len, cap, ss, hcs, _, hl, hm, hz, _, hcell, hsz⟩
  · simp at hcs
    subst hcs
    exact ⟨none, 0, [], rfl, by simp, fun k x hx => by simp at hx⟩
  · simp at hcs
    subst hcs
    simp at hz
    have e : (ss.take len).length = len := by rw [List.length_take]; omega
    refine ⟨some a, cap, ss.take len, by rw [e], by rw [e]; omega, fun j y hy => ?_⟩
    have hj : j < len := by have := (List.getElem?_eq_some_iff.1 hy).1; omega
    have c0 := hcell j (by omega)
    have c00 := hcell 0 (by omega)
    have hs : a.spot = none := spot_none (a := a) c00
    have hb : a.block < W.heap.size := by
      have := World.block_lt_of_cell? W _ c0
      rwa [add_block] at this
    have hsp : a = ⟨a.block, a.off, none⟩ := by rw [← hs]
    refine ⟨a.block, a.off, by rw [← hsp], hb, fun i u hu => ?_⟩
    obtain rfl : i = 0 := by
      have := (List.getElem?_eq_some_iff.1 hu).1
      simpa [encS] using this
    obtain rfl : u = .string y := by simpa [encS] using hu.symm
    rw [add_flat hs] at c0
    rw [Nat.mul_one, Nat.add_zero, c0]
    rw [List.getElem?_take_of_lt hj] at hy
    simp [List.getD, hy]
theorem act_of_fields {v : Nat → Value} (h : ∀ (j : Nat) (t : TypeId), #[5, 9, 28, 3, 3, 5][j]? = some t → ∃ (y : DataW H × List MemPlace) (n : Nat), DataW.trod enc Try.prog W 0 (fun _ => true) true n t [v j] = some y) :
    ∃ a : Ac, AcAt W a ∧ ∀ j u, (encA a)[j]? = some u → u = v j := by
  obtain ⟨y0, n0, t0⟩ := h 0 5 rfl
  obtain ⟨y1, n1, t1⟩ := h 1 9 rfl
  obtain ⟨y2, n2, t2⟩ := h 2 28 rfl
  obtain ⟨y3, n3, t3⟩ := h 3 3 rfl
  obtain ⟨y4, n4, t4⟩ := h 4 3 rfl
  obtain ⟨y5, n5, t5⟩ := h 5 5 rfl
  obtain ⟨x0, e0, _, w0⟩ := DataW.trod_int Try.underlying5 t0
  obtain ⟨x1, e1, _, w1⟩ := DataW.trod_string Try.underlying9 t1
  obtain ⟨A, c, L, e2, hL, hL2⟩ := texts_of t2
  obtain ⟨x3, e3, _, w3⟩ := DataW.trod_int Try.underlying3 t3
  obtain ⟨x4, e4, _, w4⟩ := DataW.trod_int Try.underlying3 t4
  obtain ⟨x5, e5, _, w5⟩ := DataW.trod_int Try.underlying5 t5
  simp only [List.cons.injEq, and_true] at e0 e1 e3 e4 e5
  obtain ⟨k, rfl, hk⟩ := u8_nat w0
  obtain ⟨x, rfl⟩ := u8_byte w5
  have h3 : x3 ≤ 9223372036854775807 := by
    simp only [Lit.wf, IntKind.min, IntKind.max, IntKind.signed, IntKind.bits] at w3
    simp at w3
    omega
  refine ⟨⟨k, x1, A, c, L, x3, x4, x⟩, ⟨hk, w1, h3, hL2, hL⟩, fun j u hu => ?_⟩
  match j, hu with
  | 0, hu => simp at hu; rw [e0, ← hu]
  | 1, hu => simp at hu; rw [e1, ← hu]
  | 2, hu => simp at hu; rw [e2, ← hu]
  | 3, hu => simp at hu; rw [e3, ← hu]
  | 4, hu => simp at hu; rw [e4, ← hu]
  | 5, hu => simp at hu; rw [e5, ← hu]
  | j + 6, hu => simp at hu
set_option maxRecDepth 100000 in
theorem act_of {v : Value} {d : DataW H} {p : List MemPlace} {r : Reach} {b0 : Nat} (hv : Value.okWide Try.prog W r b0 43 v) (h : DataW.Trod enc Try.prog W 0 (fun _ => true) true 43 v d p) :
    ∃ a : Ac, AcAt W a ∧ v = .agg #[.int .u8 (a.kind : Int), .string a.name, .slice a.adr a.ps.length a.cap, .int .i64 a.i, .int .i64 a.at_, .int .u8 (a.x.toNat : Int)] := by
  obtain ⟨cs, rfl, hsz⟩ := okWide_struct Try.underlying43 hv
  have hsz6 : cs.size = 6 := hsz.trans (by kernel_rfl)
  obtain ⟨fuel, hf⟩ := h
  obtain ⟨_, hfs⟩ := open_fields Try.underlying43 (by kernel_rfl) (by kernel_rfl) hf
  have hg : ∀ j (hj : j < 6), cs[j]? = some (cs.getD j undef) := fun j hj => by simp [Array.getD, hsz6, hj]
  obtain ⟨a, ha, he⟩ := act_of_fields (enc := enc) (W := W) (v := fun j => cs.getD j undef) (fun j t hj => by
    have hj6 : j < 6 := by
      have := (Array.getElem?_eq_some_iff.1 hj).1
      simpa using this
    match j, hj with
    | 0, hj => obtain ⟨v, y, n, hv, hy⟩ := hfs 0 _ rfl; simp at hj; subst hj; exact ⟨y, n, by have e := hg 0 (by omega); simp [Value.cells] at hv; rw [hv] at e; cases e; exact hy⟩
    | 1, hj => obtain ⟨v, y, n, hv, hy⟩ := hfs 1 _ rfl; simp at hj; subst hj; exact ⟨y, n, by have e := hg 1 (by omega); simp [Value.cells] at hv; rw [hv] at e; cases e; exact hy⟩
    | 2, hj => obtain ⟨v, y, n, hv, hy⟩ := hfs 2 _ rfl; simp at hj; subst hj; exact ⟨y, n, by have e := hg 2 (by omega); simp [Value.cells] at hv; rw [hv] at e; cases e; exact hy⟩
    | 3, hj => obtain ⟨v, y, n, hv, hy⟩ := hfs 3 _ rfl; simp at hj; subst hj; exact ⟨y, n, by have e := hg 3 (by omega); simp [Value.cells] at hv; rw [hv] at e; cases e; exact hy⟩
    | 4, hj => obtain ⟨v, y, n, hv, hy⟩ := hfs 4 _ rfl; simp at hj; subst hj; exact ⟨y, n, by have e := hg 4 (by omega); simp [Value.cells] at hv; rw [hv] at e; cases e; exact hy⟩
    | 5, hj => obtain ⟨v, y, n, hv, hy⟩ := hfs 5 _ rfl; simp at hj; subst hj; exact ⟨y, n, by have e := hg 5 (by omega); simp [Value.cells] at hv; rw [hv] at e; cases e; exact hy⟩
    | j + 6, hj => omega)
  refine ⟨a, ha, ?_⟩
  congr 1
  apply Array.ext'
  apply List.ext_getElem?
  intro j
  by_cases hj : j < 6
  · have hu : (encA a)[j]? = some ((encA a)[j]'hj) := List.getElem?_eq_getElem hj
    have e1 := he j _ hu
    rw [Array.getElem?_toList, hg j hj]
    show some (cs.getD j undef) = (encA a)[j]?
    rw [hu, e1]
  · rw [List.getElem?_eq_none (by simpa [hsz6] using hj), List.getElem?_eq_none (by simpa using hj)]
theorem acts_of {A : Option Addr} {len cap : Nat} {d : DataW H} {p : List MemPlace} (h : DataW.Trod enc Try.prog W 0 (fun _ => true) true 37 (.slice A len cap) d p) :
    ∃ L : List Ac, L.length = len ∧ len ≤ maxLen ∧ Lies encA 6 W A L ∧ ∀ a ∈ L, AcAt W a := by
  obtain ⟨fuel, hf⟩ := h
  rcases open_slice_fields Try.underlying37 Try.underlying43 (by kernel_rfl) (by kernel_rfl) hf with hcs | ⟨a, l, c, hcs, hl, hm, hi⟩
  · simp [Value.cells] at hcs
    obtain ⟨rfl, rfl, rfl⟩ := hcs
    exact ⟨[], rfl, by omega, fun k x hx => by simp at hx, by simp⟩
  · simp [Value.cells] at hcs
    obtain ⟨rfl, rfl, rfl⟩ := hcs
    have hs0 : 0 < len → a.spot = none := by
      intro h0
      obtain ⟨v0, y0, n0, c0, t0⟩ := hi 0 h0 0 _ rfl
      exact spot_none (a := a) c0
    have key : ∀ i, i < len → ∃ x : Ac, AcAt W x ∧ a.spot = none ∧ a.block < W.heap.size ∧ ∀ j u, (encA x)[j]? = some u → W.cell? ⟨a.block, a.off + i * 6 + j, none⟩ = some u := by
      intro i hil
      have hfs := hi i hil
      obtain ⟨v0, y0, n0, c0, t0⟩ := hfs 0 _ rfl
      obtain ⟨v1, y1, n1, c1, t1⟩ := hfs 1 _ rfl
      obtain ⟨v2, y2, n2, c2, t2⟩ := hfs 2 _ rfl
      obtain ⟨v3, y3, n3, c3, t3⟩ := hfs 3 _ rfl
      obtain ⟨v4, y4, n4, c4, t4⟩ := hfs 4 _ rfl
      obtain ⟨v5, y5, n5, c5, t5⟩ := hfs 5 _ rfl
      have hb : a.block < W.heap.size := by
        have := World.block_lt_of_cell? W _ c0
        rwa [add_block] at this
      have hs : a.spot = none := hs0 (by omega)
      rw [add_flat hs] at c0 c1 c2 c3 c4 c5
      obtain ⟨x, hx, he⟩ := act_of_fields (enc := enc) (W := W) (v := fun j => [v0, v1, v2, v3, v4, v5].getD j undef) (fun j t hj => by
        match j, hj with
        | 0, hj => simp at hj; subst hj; exact ⟨y0, n0, t0⟩
        | 1, hj => simp at hj; subst hj; exact ⟨y1, n1, t1⟩
        | 2, hj => simp at hj; subst hj; exact ⟨y2, n2, t2⟩
        | 3, hj => simp at hj; subst hj; exact ⟨y3, n3, t3⟩
        | 4, hj => simp at hj; subst hj; exact ⟨y4, n4, t4⟩
        | 5, hj => simp at hj; subst hj; exact ⟨y5, n5, t5⟩
        | j + 6, hj => simp at hj)
      refine ⟨x, hx, hs, hb, fun j u hu => ?_⟩
      have e := he j u hu
      subst e
      have hj6 : j < 6 := (List.getElem?_eq_some_iff.1 hu).1
      match j, hj6 with
      | 0, _ => exact c0
      | 1, _ => exact c1
      | 2, _ => exact c2
      | 3, _ => exact c3
      | 4, _ => exact c4
      | 5, _ => exact c5
      | j + 6, hj6 => omega
    refine ⟨(List.range len).map fun i => if h : i < len then (key i h).choose else ⟨0, ⟨#[]⟩, none, 0, [], 0, 0, 0⟩, by simp, by omega, fun k x hx => ?_, fun x hx => ?_⟩
    · have hk : k < len := by
        have := (List.getElem?_eq_some_iff.1 hx).1
        simpa using this
      have e : x = (key k hk).choose := by
        simp [hk] at hx
        exact hx.symm
      obtain ⟨_, hs, hb, r⟩ := (key k hk).choose_spec
      rw [← e] at r
      exact ⟨a.block, a.off, by rw [← hs], hb, r⟩
    · obtain ⟨k, hk, e⟩ := List.mem_map.1 hx
      have hk := List.mem_range.1 hk
      rw [dif_pos hk] at e
      subst e
      exact (key k hk).choose_spec.1
end
end Go.Proofs.Ytnpdnnaemfdinaa.F
