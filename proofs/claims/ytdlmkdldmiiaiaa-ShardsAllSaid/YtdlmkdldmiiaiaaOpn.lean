/- Arguments: parts, shards, lists of edges, opened to cells. Conditions: none but that they read. -/
import Derived.Deep.Slices
import Derived.Deep.Fields
import Derived.ChangeSame
import Derived.ChangeArms
import Derived.WideShapes
import Derived.OpenShut
import Derived.Lib.SmallJoins
import Derived.Test.YtdlmkdldmiiaiaaNon
namespace Go.Proofs.Ytdlmkdldmiiaiaa.E
open Go.ChangeShapes Go.WideShapes Go.Deep Go.RowKit Go.Joins Go.Sort Go.Shelf
open Go.Proofs.Ytdlmkdldmiiaiaa.Ma Go.Proofs.Ytdlmkdldmiiaiaa.By
set_option linter.unusedVariables false
set_option linter.unusedSimpArgs false
theorem spot_none {w : World} {a : Addr} {v : Value} (h : w.cell? a = some v) : a.spot = none := by
  obtain ⟨e, n, _, _, hs⟩ := World.shape?_of_cell? h
  exact hs
theorem add_flat {a : Addr} (h : a.spot = none) (k : Nat) : a.add k = ⟨a.block, a.off + k, none⟩ := by
  obtain ⟨b, o, s⟩ := a
  dsimp only at h
  subst h
  unfold Addr.add
  split
  · rename_i e; subst e; rfl
  · rfl
theorem add_block (a : Addr) (k : Nat) : (a.add k).block = a.block := by
  unfold Addr.add
  split <;> rfl
theorem i64_wf {x : Int} (h : (Lit.int .i64 x).wf = true) : -9223372036854775808 ≤ x ∧ x ≤ 9223372036854775807 := by
  simp only [Lit.wf, IntKind.min, IntKind.max, IntKind.signed, IntKind.bits] at h
  simp at h
  omega
section
variable {H : Type} {enc : TypeId × Value → H} {W : World}
set_option maxRecDepth 100000 in
theorem ints_of {fuel : Nat} {cs : List Value} {x : DataW H × List MemPlace} (h : DataW.trod enc Try.prog W 0 (fun _ => true) true fuel 62 cs = some x) :
    ∃ A len cap, cs = [.slice A len cap] ∧ (len ≤ cap ∧ cap ≤ 9223372036854775807) ∧ ∃ L : List Int, L.length = len ∧ Lies encI 1 W A L := by
  rcases open_slice Try.underlying62 h with ⟨rfl, _⟩ | ⟨a, len, c, m, n, D, Pl, rfl, _, hl, hm, hmm, _, hi⟩
  · exact ⟨none, 0, 0, rfl, ⟨by omega, by omega⟩, [], rfl, fun k x hx => by simp at hx⟩
  · refine ⟨some a, len, c, rfl, ⟨hl, by unfold maxLen at hm; omega⟩, ?_⟩
    have hlm : len ≤ m := by rw [hmm]; simp; exact hl
    have hc1 : Try.prog.cellsOf 3 = 1 := by kernel_rfl
    rw [hc1] at hi
    have key : ∀ i, i < len → ∃ x : Int, a.spot = none ∧ a.block < W.heap.size ∧ W.cell? ⟨a.block, a.off + i, none⟩ = some (.int .i64 x) := by
      intro i hil
      obtain ⟨cs', hc, ht⟩ := hi i (by omega)
      obtain ⟨_, hcl, hat⟩ := World.cells?_some hc
      obtain ⟨v, rfl⟩ : ∃ v, cs' = [v] := by
        match cs', hcl with
        | [v], _ => exact ⟨v, rfl⟩
      have hcell := hat 0 (by omega)
      obtain ⟨x0, e0, _, w0⟩ := DataW.trod_int Try.underlying3 ht
      simp only [List.cons.injEq, and_true] at e0
      subst e0
      rw [Nat.mul_one, add_add, Nat.add_zero] at hcell
      have hcell' : W.cell? (a.add i) = some (.int .i64 x0) := hcell
      have hs : a.spot = none := by
        obtain ⟨cs0, hc0, _⟩ := hi 0 (by omega)
        obtain ⟨_, hcl0, hat0⟩ := World.cells?_some hc0
        have h00 := hat0 0 (by omega)
        rw [List.getElem?_eq_getElem (by omega)] at h00
        exact spot_none (a := a) h00
      have hb : a.block < W.heap.size := by
        have := World.block_lt_of_cell? W _ hcell'
        rwa [add_block] at this
      rw [add_flat hs] at hcell'
      exact ⟨x0, hs, hb, hcell'⟩
    refine ⟨(List.range len).map fun i => if h : i < len then (key i h).choose else 0, by simp, fun k x hx => ?_⟩
    have hk : k < len := by
      have := (List.getElem?_eq_some_iff.1 hx).1
      simpa using this
    have e : x = (key k hk).choose := by
      simp [hk] at hx
      exact hx.symm
    obtain ⟨hs, hb, r⟩ := (key k hk).choose_spec
    rw [← e] at r
    refine ⟨a.block, a.off, by rw [← hs], hb, fun i u hu => ?_⟩
    have hi0 : i = 0 := by
      have := (List.getElem?_eq_some_iff.1 hu).1
      simp at this
      exact this
    subst hi0
    simp at hu
    subst hu
    rw [Nat.mul_one, Nat.add_zero]
    exact r
set_option maxRecDepth 100000 in
theorem lists_of {fuel : Nat} {cs : List Value} {x : DataW H × List MemPlace} (h : DataW.trod enc Try.prog W 0 (fun _ => true) true fuel 26 cs = some x) :
    ∃ A len cap, cs = [.slice A len cap] ∧ (len ≤ cap ∧ cap ≤ 9223372036854775807) ∧ ∃ O : List (List Int), O.length = len ∧ LiesR W A O ∧ ∀ (j : Nat) (L : List Int), O[j]? = some L → L.length ≤ 9223372036854775807 := by
  rcases open_slice Try.underlying26 h with ⟨rfl, _⟩ | ⟨a, len, c, m, n, D, Pl, rfl, _, hl, hm, hmm, _, hi⟩
  · exact ⟨none, 0, 0, rfl, ⟨by omega, by omega⟩, [], rfl, fun k x hx => by simp at hx, fun k x hx => by simp at hx⟩
  · refine ⟨some a, len, c, rfl, ⟨hl, by unfold maxLen at hm; omega⟩, ?_⟩
    have hlm : len ≤ m := by rw [hmm]; simp; exact hl
    have hc1 : Try.prog.cellsOf 62 = 1 := by kernel_rfl
    rw [hc1] at hi
    have key : ∀ i, i < len → ∃ L : List Int, a.spot = none ∧ a.block < W.heap.size ∧ ∃ A' c', W.cell? ⟨a.block, a.off + i, none⟩ = some (.slice A' L.length c') ∧ L.length ≤ c' ∧ c' ≤ 9223372036854775807 ∧ Lies encI 1 W A' L := by
      intro i hil
      obtain ⟨cs', hc, ht⟩ := hi i (by omega)
      obtain ⟨_, hcl, hat⟩ := World.cells?_some hc
      obtain ⟨A', len', cap', rfl, ⟨k1, k2⟩, L, hL, hLi⟩ := ints_of ht
      have hcell := hat 0 (by omega)
      rw [Nat.mul_one, add_add, Nat.add_zero] at hcell
      have hcell' : W.cell? (a.add i) = some (.slice A' len' cap') := hcell
      have hs : a.spot = none := by
        obtain ⟨cs0, hc0, _⟩ := hi 0 (by omega)
        obtain ⟨_, hcl0, hat0⟩ := World.cells?_some hc0
        have h00 := hat0 0 (by omega)
        rw [List.getElem?_eq_getElem (by omega)] at h00
        exact spot_none (a := a) h00
      have hb : a.block < W.heap.size := by
        have := World.block_lt_of_cell? W _ hcell'
        rwa [add_block] at this
      rw [add_flat hs] at hcell'
      exact ⟨L, hs, hb, A', cap', by rw [hL]; exact hcell', by omega, k2, hLi⟩
    refine ⟨(List.range len).map fun i => if h : i < len then (key i h).choose else [], by simp, fun k x hx => ?_, fun k x hx => ?_⟩
    · have hk : k < len := by
        have := (List.getElem?_eq_some_iff.1 hx).1
        simpa using this
      have e : x = (key k hk).choose := by
        simp [hk] at hx
        exact hx.symm
      obtain ⟨hs, hb, r⟩ := (key k hk).choose_spec
      rw [← e] at r
      exact ⟨a.block, a.off, by rw [← hs], hb, r⟩
    · have hk : k < len := by
        have := (List.getElem?_eq_some_iff.1 hx).1
        simpa using this
      have e : x = (key k hk).choose := by
        simp [hk] at hx
        exact hx.symm
      obtain ⟨hs, hb, A', c', _, k1, k2, _⟩ := (key k hk).choose_spec
      rw [← e] at k1
      omega
set_option maxRecDepth 100000 in
theorem part_of {v : Value} {d : DataW H} {p : List MemPlace} {r : Reach} {b0 : Nat} (hv : Value.okWide Try.prog W r b0 24 v) (h : DataW.Trod enc Try.prog W 0 (fun _ => true) true 24 v d p) : ∃ lo hi : Int, v = partV lo hi := by
  obtain ⟨v0, v1, y0, y1, n, rfl, _, _, t0, t1⟩ := open_agg2 Try.underlying24 (by kernel_rfl) (by kernel_rfl) hv h
  obtain ⟨x0, e0, _, w0⟩ := DataW.trod_int Try.underlying3 t0
  obtain ⟨x1, e1, _, w1⟩ := DataW.trod_int Try.underlying3 t1
  simp only [List.cons.injEq, and_true] at e0 e1
  subst e0 e1
  exact ⟨x0, x1, rfl⟩
set_option maxRecDepth 100000 in
theorem shard_of {v : Value} {d : DataW H} {p : List MemPlace} {r : Reach} {b0 : Nat} (hv : Value.okWide Try.prog W r b0 28 v) (h : DataW.Trod enc Try.prog W 0 (fun _ => true) true 28 v d p) :
    ∃ (lo hi : Int) (A : Option Addr) (c : Nat) (O : List (List Int)), v = shV lo hi A O.length c ∧ LiesR W A O ∧ O.length ≤ 9223372036854775807 ∧ ∀ (j : Nat) (L : List Int), O[j]? = some L → L.length ≤ 9223372036854775807 := by
  obtain ⟨cs, rfl, hsz⟩ := okWide_struct Try.underlying28 hv
  have hC : Try.prog.cellsOf 28 = 3 := by kernel_rfl
  obtain ⟨c0, c1, c2, rfl⟩ := array3 (hsz.trans hC)
  obtain ⟨fuel, hf⟩ := h
  obtain ⟨y0, y1, n, hx, _, h0, h1⟩ := trod_struct2 Try.underlying28 hf
  have hC24 : Try.prog.cellsOf 24 = 2 := by kernel_rfl
  have hC26 : Try.prog.cellsOf 26 = 1 := by kernel_rfl
  have h0' : DataW.trod enc Try.prog W 0 (fun _ => true) true n 24 [c0, c1] = some y0 := by simpa [Value.cells, hC24] using h0
  have h1' : DataW.trod enc Try.prog W 0 (fun _ => true) true n 26 [c2] = some y1 := by simpa [Value.cells, hC26] using h1
  obtain ⟨z0, z1, n', _, _, k0, k1⟩ := trod_struct2 Try.underlying24 h0'
  have hC3 : Try.prog.cellsOf 3 = 1 := by kernel_rfl
  have k0' : DataW.trod enc Try.prog W 0 (fun _ => true) true n' 3 [c0] = some z0 := by simpa [hC3] using k0
  have k1' : DataW.trod enc Try.prog W 0 (fun _ => true) true n' 3 [c1] = some z1 := by simpa [hC3] using k1
  obtain ⟨x0, e0, _, w0⟩ := DataW.trod_int Try.underlying3 k0'
  obtain ⟨x1, e1, _, w1⟩ := DataW.trod_int Try.underlying3 k1'
  simp only [List.cons.injEq, and_true] at e0 e1
  subst e0 e1
  obtain ⟨A, len, cap, e2, ⟨l1, l2⟩, O, hO, hL, hj⟩ := lists_of h1'
  simp only [List.cons.injEq, and_true] at e2
  subst e2
  exact ⟨x0, x1, A, cap, O, by rw [hO], hL, by omega, hj⟩
end
set_option maxRecDepth 100000 in
theorem none_law {H : Type} {enc : TypeId × Value → H} {v0 v1 : Value} {d0 d1 : DataW H} {p0 p1 : List MemPlace} {r : Reach} {b0 b1 : Nat} (W : World) (hv0 : Value.okWide Try.prog W r b0 24 v0) (hv1 : Value.okWide Try.prog W r b1 28 v1)
    (h0 : DataW.Trod enc Try.prog W 0 (fun _ => true) true 24 v0 d0 p0) (h1 : DataW.Trod enc Try.prog W 0 (fun _ => true) true 28 v1 d1 p1) : Calls Try.prog 5 #[v0, v1] W fun e w' => e = .returned (.bool true) ∧ Below W.heap.size W w' := by
  obtain ⟨plo, phi, rfl⟩ := part_of hv0 h0
  obtain ⟨lo, hi, A, c, O, rfl, hL, h2, h3⟩ := shard_of hv1 h1
  exact none_at plo phi lo hi A c O W hL h2 h3
end Go.Proofs.Ytdlmkdldmiiaiaa.E
