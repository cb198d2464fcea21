/- EdgesDegrees at all arguments: lists of pairs, opened to cells. No condition but that they read. -/
import Derived.Test.YtfehlnmkeniniaaDgs
import Derived.Test.YtfehlnmkeniniaaOpn
namespace Go.Proofs.Ytfehlnmkeniniaa.E
open Go.ChangeShapes Go.WideShapes Go.Deep Go.RowKit Go.Joins Go.Sort Go.Shelf
open Go.Proofs.Ytfehlnmkeniniaa.Ma
set_option linter.unusedVariables false
set_option linter.unusedSimpArgs false
theorem u8_wf {x : Int} (h : (Lit.int .u8 x).wf = true) : 0 ≤ x ∧ x ≤ 255 := by
  simp only [Lit.wf, IntKind.min, IntKind.max, IntKind.signed, IntKind.bits] at h
  simp at h
  omega
section
variable {H : Type} {enc : TypeId × Value → H} {W : World}
theorem pair_of {n : Nat} {cs : List Value} {x : DataW H × List MemPlace} (hl : cs.length = 2) (h : DataW.trod enc Try.prog W 0 (fun _ => true) true n 57 cs = some x) :
    ∃ p1 p2 : Int, cs = [.int .u8 p1, .int .u8 p2] ∧ (0 ≤ p1 ∧ p1 ≤ 255) ∧ 0 ≤ p2 ∧ p2 ≤ 255 := by
  match cs, hl with
  | [c0, c1], _ =>
    obtain ⟨xs, m, _, _, _, hl, hi⟩ := DataW.trod_array Try.underlying57 h
    have h0 := hi 0 (by omega)
    have h1 := hi 1 (by omega)
    rw [show Try.prog.cellsOf 5 = 1 by kernel_rfl] at h0 h1
    rw [List.getElem?_eq_getElem (by omega)] at h0 h1
    obtain ⟨x, e0, _, w0⟩ := DataW.trod_int Try.underlying5 h0
    obtain ⟨y, e1, _, w1⟩ := DataW.trod_int Try.underlying5 h1
    simp at e0 e1
    subst e0 e1
    exact ⟨x, y, rfl, u8_wf w0, u8_wf w1⟩
theorem pairs_of {A : Option Addr} {len cap : Nat} {d : DataW H} {p : List MemPlace} (h : DataW.Trod enc Try.prog W 0 (fun _ => true) true 37 (.slice A len cap) d p) :
    len ≤ 9223372036854775807 ∧ ∃ P : List Ed, P.length = len ∧ Lies enc8 2 W A P ∧ ∀ q ∈ P, (0 ≤ q.1 ∧ q.1 ≤ 255) ∧ 0 ≤ q.2 ∧ q.2 ≤ 255 := by
  obtain ⟨fuel, hf⟩ := h
  rcases open_slice Try.underlying37 hf with ⟨hcs, _⟩ | ⟨a, l, c, m, n, D, Pl, hcs, _, hl, hm, hmm, _, hi⟩
  · simp [Value.cells] at hcs
    obtain ⟨rfl, rfl, rfl⟩ := hcs
    exact ⟨by omega, [], rfl, fun k x hx => by simp at hx, fun t ht => by simp at ht⟩
  · simp [Value.cells] at hcs
    obtain ⟨rfl, rfl, rfl⟩ := hcs
    have hlm : len ≤ m := by rw [hmm]; simp; exact hl
    refine ⟨by unfold maxLen at hm; omega, ?_⟩
    rw [show Try.prog.cellsOf 57 = 2 by kernel_rfl] at hi
    have key1 : ∀ i, i < len → ∃ x : Ed, ((0 ≤ x.1 ∧ x.1 ≤ 255) ∧ 0 ≤ x.2 ∧ x.2 ≤ 255) ∧ ∀ j u, (enc8 x)[j]? = some u → W.cell? ((a.add (i * 2)).add j) = some u := by
      intro i hil
      obtain ⟨cs, hc, ht⟩ := hi i (by omega)
      obtain ⟨_, hcl, hat⟩ := World.cells?_some hc
      obtain ⟨p1, p2, rfl, hk⟩ := pair_of hcl ht
      refine ⟨(p1, p2), hk, fun j u hu => ?_⟩
      have hj : j < 2 := by
        have := (List.getElem?_eq_some_iff.1 hu).1
        simpa [enc8] using this
      rw [hat j hj]
      exact hu
    have hs : 0 < len → a.spot = none := by
      intro h0
      obtain ⟨x, _, hx⟩ := key1 0 (by omega)
      exact spot_none (a := a) (hx 0 _ rfl)
    have key : ∀ i, i < len → ∃ x : Ed, a.spot = none ∧ ((0 ≤ x.1 ∧ x.1 ≤ 255) ∧ 0 ≤ x.2 ∧ x.2 ≤ 255) ∧ a.block < W.heap.size ∧ ∀ j u, (enc8 x)[j]? = some u → W.cell? ⟨a.block, a.off + i * 2 + j, none⟩ = some u := by
      intro i hil
      have hs := hs (by omega)
      obtain ⟨x, hk, hx⟩ := key1 i hil
      have hb : a.block < W.heap.size := by
        have := World.block_lt_of_cell? W _ (hx 0 _ rfl)
        rwa [add_block, add_block] at this
      refine ⟨x, hs, hk, hb, fun j u hu => ?_⟩
      have := hx j u hu
      rwa [add_flat hs, add_flat rfl] at this
    refine ⟨(List.range len).map fun i => if h : i < len then (key i h).choose else (0, 0), by simp, fun k x hx => ?_, fun t ht => ?_⟩
    · have hk : k < len := by
        have := (List.getElem?_eq_some_iff.1 hx).1
        simpa using this
      have e : x = (key k hk).choose := by
        simp [hk] at hx
        exact hx.symm
      obtain ⟨hs, _, hb, r⟩ := (key k hk).choose_spec
      rw [← e] at r
      exact ⟨a.block, a.off, by rw [← hs], hb, r⟩
    · simp only [List.mem_map, List.mem_range] at ht
      obtain ⟨k, hk, e⟩ := ht
      rw [dif_pos hk] at e
      subst e
      exact (key k hk).choose_spec.2.1
end
set_option maxRecDepth 100000 in
theorem degs_great (A : Option Addr) (len cap : Nat) (x : Int) (w : World) (hl : len ≤ 9223372036854775807) (h2 : 400 < len) : Calls Try.prog 6 #[.int .u8 x, .slice A len cap] w fun e w' => e = .returned (.bool true) ∧ Below w.heap.size w w' := by
  have h3 : (400 : Int) < len := by omega
  go_enter Try.func6, Try.ntmps6
  go_wp2
  go_ret
  exact ⟨rfl, Below.refl _ _⟩
theorem degs_all (A : Option Addr) (len cap : Nat) (x : Int) (P : List Ed) (w : World) (hx8 : (Lit.int .u8 x).wf = true) (hc : len ≤ 9223372036854775807) (hlen : P.length = len) (hL : Lies enc8 2 w A P) (hb8 : ∀ p ∈ P, (0 ≤ p.1 ∧ p.1 ≤ 255) ∧ 0 ≤ p.2 ∧ p.2 ≤ 255) : Calls Try.prog 6 #[.int .u8 x, .slice A len cap] w fun e w' => e = .returned (.bool true) ∧ Below w.heap.size w w' := by
  by_cases h : len ≤ 400
  · exact degs_at A len cap x P w (u8_wf hx8) h hlen hL hb8
  · exact degs_great A len cap x w hc (by omega)
end Go.Proofs.Ytfehlnmkeniniaa.E
