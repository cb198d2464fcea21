/- QueuePlay at all arguments: the list of turns, opened to cells. Conditions: none but that they read. -/
import Derived.Test.YtcallnhkojgnmaaPlay
import Derived.Test.YtcallnhkojgnmaaOpb
namespace Go.Proofs.Ytcallnhkojgnmaa.Q
open Go.ChangeShapes Go.WideShapes Go.Deep Go.RowKit Go.Joins Go.Sort Go.Shelf
open Go.Proofs.Ytcallnhkojgnmaa.Ma
set_option linter.unusedVariables false
set_option linter.unusedSimpArgs false
section
variable {H : Type} {enc : TypeId × Value → H} {W : World}
theorem five_of {l : List Value} (h : l.length = 5) : ∃ a b c d e, l = [a, b, c, d, e] := by
  match l, h with
  | [a, b, c, d, e], _ => exact ⟨a, b, c, d, e, rfl⟩
theorem turn_of {n : Nat} {cs : List Value} {x : DataW H × List MemPlace} (h : DataW.trod enc Try.prog W 0 (fun _ => true) true n 33 cs = some x) :
    ∃ k x1 x2 x3 x4 : Int, cs = [.int .u8 k, .int .i64 x1, .int .i64 x2, .int .i64 x3, .int .i64 x4] ∧ 0 ≤ k ∧ k ≤ 255 := by
  obtain ⟨ys, m, _, _, hcl, hyl, hf⟩ := DataW.trod_struct Try.underlying33 h
  rw [show Try.prog.cellsOf 33 = 5 by kernel_rfl] at hcl
  obtain ⟨c0, c1, c2, c3, c4, rfl⟩ := five_of hcl
  have f0 : DataW.trod enc Try.prog W 0 (fun _ => true) true m 5 (([c0, c1, c2, c3, c4].drop 0).take (Try.prog.cellsOf 5)) = ys[0]? := hf 0 _ rfl
  have f1 : DataW.trod enc Try.prog W 0 (fun _ => true) true m 31 (([c0, c1, c2, c3, c4].drop 1).take (Try.prog.cellsOf 31)) = ys[1]? := hf 1 _ rfl
  rw [List.getElem?_eq_getElem (show 0 < ys.length by rw [hyl]; decide)] at f0
  rw [List.getElem?_eq_getElem (show 1 < ys.length by rw [hyl]; decide)] at f1
  rw [show Try.prog.cellsOf 5 = 1 by kernel_rfl] at f0
  rw [show Try.prog.cellsOf 31 = 4 by kernel_rfl] at f1
  simp only [List.drop_zero, List.drop_succ_cons, List.take_succ_cons, List.take_zero] at f0 f1
  obtain ⟨k, e0, _, w0⟩ := DataW.trod_int Try.underlying5 f0
  obtain ⟨zs, m2, _, _, hcl2, hzl, hg⟩ := DataW.trod_struct Try.underlying31 f1
  have g0 : DataW.trod enc Try.prog W 0 (fun _ => true) true m2 3 (([c1, c2, c3, c4].drop 0).take (Try.prog.cellsOf 3)) = zs[0]? := hg 0 _ rfl
  have g1 : DataW.trod enc Try.prog W 0 (fun _ => true) true m2 3 (([c1, c2, c3, c4].drop 1).take (Try.prog.cellsOf 3)) = zs[1]? := hg 1 _ rfl
  have g2 : DataW.trod enc Try.prog W 0 (fun _ => true) true m2 3 (([c1, c2, c3, c4].drop 2).take (Try.prog.cellsOf 3)) = zs[2]? := hg 2 _ rfl
  have g3 : DataW.trod enc Try.prog W 0 (fun _ => true) true m2 3 (([c1, c2, c3, c4].drop 3).take (Try.prog.cellsOf 3)) = zs[3]? := hg 3 _ rfl
  rw [List.getElem?_eq_getElem (show 0 < zs.length by rw [hzl]; decide)] at g0
  rw [List.getElem?_eq_getElem (show 1 < zs.length by rw [hzl]; decide)] at g1
  rw [List.getElem?_eq_getElem (show 2 < zs.length by rw [hzl]; decide)] at g2
  rw [List.getElem?_eq_getElem (show 3 < zs.length by rw [hzl]; decide)] at g3
  rw [show Try.prog.cellsOf 3 = 1 by kernel_rfl] at g0 g1 g2 g3
  simp only [List.drop_zero, List.drop_succ_cons, List.take_succ_cons, List.take_zero] at g0 g1 g2 g3
  obtain ⟨x1, e1, _, _⟩ := DataW.trod_int Try.underlying3 g0
  obtain ⟨x2, e2, _, _⟩ := DataW.trod_int Try.underlying3 g1
  obtain ⟨x3, e3, _, _⟩ := DataW.trod_int Try.underlying3 g2
  obtain ⟨x4, e4, _, _⟩ := DataW.trod_int Try.underlying3 g3
  simp only [List.cons.injEq, and_true] at e0 e1 e2 e3 e4
  subst e0 e1 e2 e3 e4
  have := u8_wf w0
  exact ⟨k, x1, x2, x3, x4, rfl, this.1, this.2⟩
theorem turns_of {A : Option Addr} {len cap : Nat} {d : DataW H} {p : List MemPlace} (h : DataW.Trod enc Try.prog W 0 (fun _ => true) true 22 (.slice A len cap) d p) :
    len ≤ 9223372036854775807 ∧ ∃ L : List Tn, L.length = len ∧ Lies encT 5 W A L ∧ ∀ t ∈ L, 0 ≤ t.1 ∧ t.1 ≤ 255 := by
  obtain ⟨fuel, hf⟩ := h
  rcases open_slice Try.underlying22 hf with ⟨hcs, _⟩ | ⟨a, l, c, m, n, D, Pl, hcs, _, hl, hm, hmm, _, hi⟩
  · simp [Value.cells] at hcs
    obtain ⟨rfl, rfl, rfl⟩ := hcs
    exact ⟨by omega, [], rfl, fun k x hx => by simp at hx, fun t ht => by simp at ht⟩
  · simp [Value.cells] at hcs
    obtain ⟨rfl, rfl, rfl⟩ := hcs
    have hlm : len ≤ m := by rw [hmm]; simp; exact hl
    refine ⟨by unfold maxLen at hm; omega, ?_⟩
    rw [show Try.prog.cellsOf 33 = 5 by kernel_rfl] at hi
    have key1 : ∀ i, i < len → ∃ x : Tn, (0 ≤ x.1 ∧ x.1 ≤ 255) ∧ ∀ j u, (encT x)[j]? = some u → W.cell? ((a.add (i * 5)).add j) = some u := by
      intro i hil
      obtain ⟨cs, hc, ht⟩ := hi i (by omega)
      obtain ⟨k, x1, x2, x3, x4, rfl, hk⟩ := turn_of ht
      obtain ⟨_, hcl, hat⟩ := World.cells?_some hc
      refine ⟨(k, x1, x2, x3, x4), hk, fun j u hu => ?_⟩
      have hj : j < 5 := by
        have := (List.getElem?_eq_some_iff.1 hu).1
        simpa [encT] using this
      rw [hat j hj]
      exact hu
    have hs : 0 < len → a.spot = none := by
      intro h0
      obtain ⟨x, _, hx⟩ := key1 0 (by omega)
      exact spot_none (a := a) (hx 0 _ rfl)
    have key : ∀ i, i < len → ∃ x : Tn, a.spot = none ∧ (0 ≤ x.1 ∧ x.1 ≤ 255) ∧ a.block < W.heap.size ∧ ∀ j u, (encT x)[j]? = some u → W.cell? ⟨a.block, a.off + i * 5 + j, none⟩ = some u := by
      intro i hil
      have hs := hs (by omega)
      obtain ⟨x, hk, hx⟩ := key1 i hil
      have hb : a.block < W.heap.size := by
        have := World.block_lt_of_cell? W _ (hx 0 _ rfl)
        rwa [add_block, add_block] at this
      refine ⟨x, hs, hk, hb, fun j u hu => ?_⟩
      have := hx j u hu
      rwa [add_flat hs, add_flat rfl] at this
    refine ⟨(List.range len).map fun i => if h : i < len then (key i h).choose else (0, 0, 0, 0, 0), by simp, fun k x hx => ?_, fun t ht => ?_⟩
    · have hk : k < len := by
        have := (List.getElem?_eq_some_iff.1 hx).1
        simpa using this
      have e : x = (key k hk).choose := by
        simp [hk] at hx
        exact hx.symm
      obtain ⟨hs, _, hb, r⟩ := (key k hk).choose_spec
      rw [← e] at r
      exact ⟨a.block, a.off, by rw [← hs], hb, r⟩
    · simp only [List.mem_map, List.mem_range] at ht
      obtain ⟨k, hk, e⟩ := ht
      rw [dif_pos hk] at e
      subst e
      exact (key k hk).choose_spec.2.1
end
set_option maxRecDepth 100000 in
theorem play_great (A : Option Addr) (len cap : Nat) (w : World) (hl : len ≤ 9223372036854775807) (h2 : 200 < len) : Calls Try.prog 3 #[.slice A len cap] w fun e w' => e = .returned (.bool true) ∧ Below w.heap.size w w' := by
  have h3 : (200 : Int) < len := by omega
  go_enter Try.func3, Try.ntmps3
  go_wp2_with (go_at_call 9; refine (waits_calls _).mono ?_; rintro e w' ⟨rfl, hb⟩)
  go_ret
  exact ⟨rfl, hb⟩
theorem play_all (A : Option Addr) (len cap : Nat) (xs : List Tn) (w : World) (hl : len ≤ 9223372036854775807) (hlen : xs.length = len) (hL : Lies encT 5 w A xs) (hk : ∀ t ∈ xs, 0 ≤ t.1 ∧ t.1 ≤ 255) : Calls Try.prog 3 #[.slice A len cap] w fun e w' => e = .returned (.bool true) ∧ Below w.heap.size w w' := by
  by_cases h : len ≤ 200
  · exact play_at A len cap xs w h hlen hL hk
  · exact play_great A len cap w hl (by omega)
end Go.Proofs.Ytcallnhkojgnmaa.Q
