/- ShardsBack's arguments, opened to cells. Conditions: none but that they read. -/
import Derived.Test.YtdlmkdldmiiaiaaBck
import Derived.Test.YtdlmkdldmiiaiaaOpn
namespace Go.Proofs.Ytdlmkdldmiiaiaa.E
open Go.ChangeShapes Go.WideShapes Go.Deep Go.RowKit Go.Joins Go.Sort Go.Shelf
open Go.Proofs.Ytdlmkdldmiiaiaa.Ma Go.Proofs.Ytdlmkdldmiiaiaa.By
set_option linter.unusedVariables false
set_option linter.unusedSimpArgs false
/-- An array of two whole numbers that came in: its value, its reading; and back. -/
theorem open_arr2int {P : Program} {H : Type} {enc : TypeId × Value → H} {W : World} {b0 : Nat} {r : Reach} {base : Nat} {sp : Nat → Bool} {held : Bool} {t e : TypeId} {k : IntKind} {v : Value} {d : DataW H} {p : List MemPlace} (ht : P.underlying t = some (.array 2 e)) (he : P.underlying e = some (.int k)) (hC : P.cellsOf t = 2) (hE : P.cellsOf e = 1)
    (hv : Value.okWide P W r b0 t v) (h : DataW.Trod enc P W base sp held t v d p) :
    ∃ x y : Int, v = .agg #[.int k x, .int k y] ∧ (Lit.int k x).wf = true ∧ (Lit.int k y).wf = true := by
  obtain ⟨cs, rfl, hsz, _⟩ : ∃ cs, v = .agg cs ∧ cs.size = P.cellsOf t ∧ Row.okWide P W r b0 t cs := by
    simpa [Value.okWide, ht] using hv
  rw [hC] at hsz
  obtain ⟨l⟩ := cs
  obtain ⟨c0, c1, rfl⟩ : ∃ c0 c1, l = [c0, c1] := by
    match l, hsz with
    | [c0, c1], _ => exact ⟨c0, c1, rfl⟩
  obtain ⟨fuel, hf⟩ := h
  obtain ⟨xs, m, _, hx, _, hl, hel⟩ := DataW.trod_array ht hf
  match xs, hl with
  | [y0, y1], _ =>
    have h0 := hel 0 (by omega)
    have h1 := hel 1 (by omega)
    simp only [Value.cells, hE, Nat.zero_mul, Nat.one_mul, List.drop_zero, List.take_succ_cons, List.take_zero, List.drop_succ_cons] at h0 h1
    obtain ⟨x, e0, z0, s0⟩ := DataW.trod_int he h0
    obtain ⟨y, e1, z1, s1⟩ := DataW.trod_int he h1
    simp only [List.cons.injEq, and_true] at e0 e1
    subst e0 e1 z0 z1
    simp only [Prod.mk.injEq, List.map_cons, List.map_nil, List.flatMap_cons, List.flatMap_nil, List.append_nil] at hx
    exact ⟨x, y, rfl, s0, s1⟩
theorem u8_wf {x : Int} (h : (Lit.int .u8 x).wf = true) : 0 ≤ x ∧ x ≤ 255 := by
  simp only [Lit.wf, IntKind.min, IntKind.max, IntKind.signed, IntKind.bits] at h
  simp at h
  omega
section
variable {H : Type} {enc : TypeId × Value → H} {W : World}
set_option maxRecDepth 100000 in
theorem pair_of {n : Nat} {cs : List Value} {x : DataW H × List MemPlace} (hl : cs.length = 2) (h : DataW.trod enc Try.prog W 0 (fun _ => true) true n 45 cs = some x) :
    ∃ p1 p2 : Int, cs = [.int .u8 p1, .int .u8 p2] ∧ (0 ≤ p1 ∧ p1 ≤ 255) ∧ 0 ≤ p2 ∧ p2 ≤ 255 := by
  match cs, hl with
  | [c0, c1], _ =>
    obtain ⟨xs, m, _, _, _, hl, hi⟩ := DataW.trod_array Try.underlying45 h
    have h0 := hi 0 (by omega)
    have h1 := hi 1 (by omega)
    rw [show Try.prog.cellsOf 5 = 1 by kernel_rfl] at h0 h1
    rw [List.getElem?_eq_getElem (by omega)] at h0 h1
    obtain ⟨x, e0, _, w0⟩ := DataW.trod_int Try.underlying5 h0
    obtain ⟨y, e1, _, w1⟩ := DataW.trod_int Try.underlying5 h1
    simp at e0 e1
    subst e0 e1
    exact ⟨x, y, rfl, u8_wf w0, u8_wf w1⟩
set_option maxRecDepth 100000 in
theorem pairs_of {A : Option Addr} {len cap : Nat} {d : DataW H} {p : List MemPlace} (h : DataW.Trod enc Try.prog W 0 (fun _ => true) true 46 (.slice A len cap) d p) :
    len ≤ 9223372036854775807 ∧ ∃ P : List Ed, P.length = len ∧ Lies Go.Proofs.Ytdlmkdldmiiaiaa.D.enc8 2 W A P ∧ ∀ q ∈ P, (0 ≤ q.1 ∧ q.1 ≤ 255) ∧ 0 ≤ q.2 ∧ q.2 ≤ 255 := by
  obtain ⟨fuel, hf⟩ := h
  rcases open_slice Try.underlying46 hf with ⟨hcs, _⟩ | ⟨a, l, c, m, n, D, Pl, hcs, _, hl, hm, hmm, _, hi⟩
  · simp [Value.cells] at hcs
    obtain ⟨rfl, rfl, rfl⟩ := hcs
    exact ⟨by omega, [], rfl, fun k x hx => by simp at hx, fun t ht => by simp at ht⟩
  · simp [Value.cells] at hcs
    obtain ⟨rfl, rfl, rfl⟩ := hcs
    have hlm : len ≤ m := by rw [hmm]; simp; exact hl
    refine ⟨by unfold maxLen at hm; omega, ?_⟩
    rw [show Try.prog.cellsOf 45 = 2 by kernel_rfl] at hi
    have key1 : ∀ i, i < len → ∃ x : Ed, ((0 ≤ x.1 ∧ x.1 ≤ 255) ∧ 0 ≤ x.2 ∧ x.2 ≤ 255) ∧ ∀ j u, (Go.Proofs.Ytdlmkdldmiiaiaa.D.enc8 x)[j]? = some u → W.cell? ((a.add (i * 2)).add j) = some u := by
      intro i hil
      obtain ⟨cs, hc, ht⟩ := hi i (by omega)
      obtain ⟨_, hcl, hat⟩ := World.cells?_some hc
      obtain ⟨p1, p2, rfl, hk⟩ := pair_of hcl ht
      refine ⟨(p1, p2), hk, fun j u hu => ?_⟩
      have hj : j < 2 := by
        have := (List.getElem?_eq_some_iff.1 hu).1
        simpa [Go.Proofs.Ytdlmkdldmiiaiaa.D.enc8] using this
      rw [hat j hj]
      exact hu
    have hs : 0 < len → a.spot = none := by
      intro h0
      obtain ⟨x, _, hx⟩ := key1 0 (by omega)
      exact spot_none (a := a) (hx 0 _ rfl)
    have key : ∀ i, i < len → ∃ x : Ed, a.spot = none ∧ ((0 ≤ x.1 ∧ x.1 ≤ 255) ∧ 0 ≤ x.2 ∧ x.2 ≤ 255) ∧ a.block < W.heap.size ∧ ∀ j u, (Go.Proofs.Ytdlmkdldmiiaiaa.D.enc8 x)[j]? = some u → W.cell? ⟨a.block, a.off + i * 2 + j, none⟩ = some u := by
      intro i hil
      have hs := hs (by omega)
      obtain ⟨x, hk, hx⟩ := key1 i hil
      have hb : a.block < W.heap.size := by
        have := World.block_lt_of_cell? W _ (hx 0 _ rfl)
        rwa [add_block, add_block] at this
      refine ⟨x, hs, hk, hb, fun j u hu => ?_⟩
      have := hx j u hu
      rwa [add_flat hs, add_flat rfl] at this
    refine ⟨(List.range len).map fun i => if h : i < len then (key i h).choose else (0, 0), by simp, fun k x hx => ?_, fun t ht => ?_⟩
    · have hk : k < len := by
        have := (List.getElem?_eq_some_iff.1 hx).1
        simpa using this
      have e : x = (key k hk).choose := by
        simp [hk] at hx
        exact hx.symm
      obtain ⟨hs, _, hb, r⟩ := (key k hk).choose_spec
      rw [← e] at r
      exact ⟨a.block, a.off, by rw [← hs], hb, r⟩
    · simp only [List.mem_map, List.mem_range] at ht
      obtain ⟨k, hk, e⟩ := ht
      rw [dif_pos hk] at e
      subst e
      exact (key k hk).choose_spec.2.1
end
set_option maxRecDepth 100000 in
theorem back_law {H : Type} {enc : TypeId × Value → H} {v0 v1 v2 : Value} {d0 d1 d2 : DataW H} {p0 p1 p2 : List MemPlace} {r : Reach} {b0 b1 b2 : Nat} (W : World) (hv0 : Value.okWide Try.prog W r b0 45 v0) (hv1 : Value.okWide Try.prog W r b1 46 v1) (hv2 : Value.okWide Try.prog W r b2 28 v2)
    (h0 : DataW.Trod enc Try.prog W 0 (fun _ => true) true 45 v0 d0 p0) (h1 : DataW.Trod enc Try.prog W 0 (fun _ => true) true 46 v1 d1 p1) (h2 : DataW.Trod enc Try.prog W 0 (fun _ => true) true 28 v2 d2 p2) : Calls Try.prog 7 #[v0, v1, v2] W fun e w' => e = .returned (.bool true) ∧ Below W.heap.size W w' := by
  obtain ⟨x, y, rfl, hx, hy⟩ := open_arr2int Try.underlying45 Try.underlying5 (by kernel_rfl) (by kernel_rfl) hv0 h0
  obtain ⟨A1, n1, c1, rfl⟩ := okWide_slice Try.underlying46 hv1
  obtain ⟨hc, P, rfl, hL, hb8⟩ := pairs_of h1
  obtain ⟨lo, hi, A, c, O, rfl, hL2, k2, k3⟩ := shard_of hv2 h2
  exact back_at A1 c1 x y P lo hi A c O W (u8_wf hx) (u8_wf hy) hc hL hb8 hL2 k2 k3
end Go.Proofs.Ytdlmkdldmiiaiaa.E
