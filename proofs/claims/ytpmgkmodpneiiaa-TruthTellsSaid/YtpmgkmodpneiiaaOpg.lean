/- Drawn graphs and drawn jobs, opened to cells. No condition but that they read. -/
import Derived.Test.YtpmgkmodpneiiaaMad
namespace Go.Proofs.Ytpmgkmodpneiiaa.E
open Go.ChangeShapes Go.WideShapes Go.Deep Go.RowKit Go.Joins Go.Sort Go.Shelf
open Go.Proofs.Ytpmgkmodpneiiaa.Ma
set_option linter.unusedVariables false
set_option linter.unusedSimpArgs false
theorem u8_wf {x : Int} (h : (Lit.int .u8 x).wf = true) : 0 ≤ x ∧ x ≤ 255 := by
  simp only [Lit.wf, IntKind.min, IntKind.max, IntKind.signed, IntKind.bits] at h
  simp at h
  omega
section
variable {H : Type} {enc : TypeId × Value → H} {W : World}
set_option maxRecDepth 100000 in
theorem pair_of {n : Nat} {cs : List Value} {x : DataW H × List MemPlace} (hl : cs.length = 2) (h : DataW.trod enc Try.prog W 0 (fun _ => true) true n 61 cs = some x) :
    ∃ p1 p2 : Int, cs = [.int .u8 p1, .int .u8 p2] ∧ (0 ≤ p1 ∧ p1 ≤ 255) ∧ 0 ≤ p2 ∧ p2 ≤ 255 := by
  match cs, hl with
  | [c0, c1], _ =>
    obtain ⟨xs, m, _, _, _, hl, hi⟩ := DataW.trod_array Try.underlying61 h
    have h0 := hi 0 (by omega)
    have h1 := hi 1 (by omega)
    rw [show Try.prog.cellsOf 5 = 1 by kernel_rfl] at h0 h1
    rw [List.getElem?_eq_getElem (by omega)] at h0 h1
    obtain ⟨x, e0, _, w0⟩ := DataW.trod_int Try.underlying5 h0
    obtain ⟨y, e1, _, w1⟩ := DataW.trod_int Try.underlying5 h1
    simp at e0 e1
    subst e0 e1
    exact ⟨x, y, rfl, u8_wf w0, u8_wf w1⟩
set_option maxRecDepth 100000 in
theorem pairs_of {A : Option Addr} {len cap : Nat} {d : DataW H} {p : List MemPlace} (h : DataW.Trod enc Try.prog W 0 (fun _ => true) true 39 (.slice A len cap) d p) :
    len ≤ 9223372036854775807 ∧ ∃ P : List Ed, P.length = len ∧ Lies enc8 2 W A P ∧ ∀ q ∈ P, (0 ≤ q.1 ∧ q.1 ≤ 255) ∧ 0 ≤ q.2 ∧ q.2 ≤ 255 := by
  obtain ⟨fuel, hf⟩ := h
  rcases open_slice Try.underlying39 hf with ⟨hcs, _⟩ | ⟨a, l, c, m, n, D, Pl, hcs, _, hl, hm, hmm, _, hi⟩
  · simp [Value.cells] at hcs
    obtain ⟨rfl, rfl, rfl⟩ := hcs
    exact ⟨by omega, [], rfl, fun k x hx => by simp at hx, fun t ht => by simp at ht⟩
  · simp [Value.cells] at hcs
    obtain ⟨rfl, rfl, rfl⟩ := hcs
    have hlm : len ≤ m := by rw [hmm]; simp; exact hl
    refine ⟨by unfold maxLen at hm; omega, ?_⟩
    rw [show Try.prog.cellsOf 61 = 2 by kernel_rfl] at hi
    have key1 : ∀ i, i < len → ∃ x : Ed, ((0 ≤ x.1 ∧ x.1 ≤ 255) ∧ 0 ≤ x.2 ∧ x.2 ≤ 255) ∧ ∀ j u, (enc8 x)[j]? = some u → W.cell? ((a.add (i * 2)).add j) = some u := by
      intro i hil
      obtain ⟨cs, hc, ht⟩ := hi i (by omega)
      obtain ⟨_, hcl, hat⟩ := World.cells?_some hc
      obtain ⟨p1, p2, rfl, hk⟩ := pair_of hcl ht
      refine ⟨(p1, p2), hk, fun j u hu => ?_⟩
      have hj : j < 2 := by
        have := (List.getElem?_eq_some_iff.1 hu).1
        simpa [enc8] using this
      rw [hat j hj]
      exact hu
    have hs : 0 < len → a.spot = none := by
      intro h0
      obtain ⟨x, _, hx⟩ := key1 0 (by omega)
      exact spot_none (a := a) (hx 0 _ rfl)
    have key : ∀ i, i < len → ∃ x : Ed, a.spot = none ∧ ((0 ≤ x.1 ∧ x.1 ≤ 255) ∧ 0 ≤ x.2 ∧ x.2 ≤ 255) ∧ a.block < W.heap.size ∧ ∀ j u, (enc8 x)[j]? = some u → W.cell? ⟨a.block, a.off + i * 2 + j, none⟩ = some u := by
      intro i hil
      have hs := hs (by omega)
      obtain ⟨x, hk, hx⟩ := key1 i hil
      have hb : a.block < W.heap.size := by
        have := World.block_lt_of_cell? W _ (hx 0 _ rfl)
        rwa [add_block, add_block] at this
      refine ⟨x, hs, hk, hb, fun j u hu => ?_⟩
      have := hx j u hu
      rwa [add_flat hs, add_flat rfl] at this
    refine ⟨(List.range len).map fun i => if h : i < len then (key i h).choose else (0, 0), by simp, fun k x hx => ?_, fun t ht => ?_⟩
    · have hk : k < len := by
        have := (List.getElem?_eq_some_iff.1 hx).1
        simpa using this
      have e : x = (key k hk).choose := by
        simp [hk] at hx
        exact hx.symm
      obtain ⟨hs, _, hb, r⟩ := (key k hk).choose_spec
      rw [← e] at r
      exact ⟨a.block, a.off, by rw [← hs], hb, r⟩
    · simp only [List.mem_map, List.mem_range] at ht
      obtain ⟨k, hk, e⟩ := ht
      rw [dif_pos hk] at e
      subst e
      exact (key k hk).choose_spec.2.1
set_option maxRecDepth 100000 in
theorem graph_of {v : Value} {d : DataW H} {p : List MemPlace} {r : Reach} {b0 : Nat} (hv : Value.okWide Try.prog W r b0 41 v) (h : DataW.Trod enc Try.prog W 0 (fun _ => true) true 41 v d p) :
    ∃ (N : Int) (A : Option Addr) (len cap : Nat), v = .agg #[.int .u8 N, .slice A len cap] ∧ (0 ≤ N ∧ N ≤ 255) ∧ len ≤ 9223372036854775807 ∧ ∃ P : List Ed, P.length = len ∧ Lies enc8 2 W A P ∧ ∀ q ∈ P, (0 ≤ q.1 ∧ q.1 ≤ 255) ∧ 0 ≤ q.2 ∧ q.2 ≤ 255 := by
  obtain ⟨v0, v1, y0, y1, n, rfl, _, _, t0, t1⟩ := open_agg2 Try.underlying41 (by kernel_rfl) (by kernel_rfl) hv h
  obtain ⟨x0, e0, _, w0⟩ := DataW.trod_int Try.underlying5 t0
  simp only [List.cons.injEq, and_true] at e0
  subst e0
  have hs : ∃ A len cap, v1 = .slice A len cap := by
    rcases open_slice Try.underlying39 t1 with ⟨hcs, _⟩ | ⟨a, l, c, m, n, D, Pl, hcs, _⟩
    · simp only [List.cons.injEq, and_true] at hcs
      exact ⟨_, _, _, hcs⟩
    · simp only [List.cons.injEq, and_true] at hcs
      exact ⟨_, _, _, hcs⟩
  obtain ⟨A, len, cap, rfl⟩ := hs
  obtain ⟨h1, h2⟩ := pairs_of (A := A) (len := len) (cap := cap) ⟨n, t1⟩
  exact ⟨x0, A, len, cap, rfl, u8_wf w0, h1, h2⟩
theorem u16_wf {x : Int} (h : (Lit.int .u16 x).wf = true) : 0 ≤ x ∧ x ≤ 65535 := by
  simp only [Lit.wf, IntKind.min, IntKind.max, IntKind.signed, IntKind.bits] at h
  simp at h
  omega
set_option maxRecDepth 100000 in
theorem ask_of {v : Value} {d : DataW H} {p : List MemPlace} {r : Reach} {b0 : Nat} (hv : Value.okWide Try.prog W r b0 44 v) (h : DataW.Trod enc Try.prog W 0 (fun _ => true) true 44 v d p) :
    ∃ k a p n : Int, v = .agg #[.int .u8 k, .int .u8 a, .int .u8 p, .int .u16 n] ∧ (0 ≤ k ∧ k ≤ 255) ∧ (0 ≤ a ∧ a ≤ 255) ∧ (0 ≤ p ∧ p ≤ 255) ∧ (0 ≤ n ∧ n ≤ 65535) := by
  obtain ⟨v0, v1, v2, v3, y0, y1, y2, y3, n, rfl, _, _, t0, t1, t2, t3⟩ := open_agg4 Try.underlying44 (by kernel_rfl) (by kernel_rfl) hv h
  obtain ⟨x0, e0, _, w0⟩ := DataW.trod_int Try.underlying5 t0
  obtain ⟨x1, e1, _, w1⟩ := DataW.trod_int Try.underlying5 t1
  obtain ⟨x2, e2, _, w2⟩ := DataW.trod_int Try.underlying5 t2
  obtain ⟨x3, e3, _, w3⟩ := DataW.trod_int Try.underlying42 t3
  simp only [List.cons.injEq, and_true] at e0 e1 e2 e3
  subst e0 e1 e2 e3
  exact ⟨x0, x1, x2, x3, rfl, u8_wf w0, u8_wf w1, u8_wf w2, u16_wf w3⟩
end
end Go.Proofs.Ytpmgkmodpneiiaa.E
