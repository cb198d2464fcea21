/- QueueAges at all arguments: arrays of two, opened. Conditions: none but that they read. -/
import Derived.OpenShut
import Derived.Lib.SmallJoins
import Derived.Test.YtcallnhkojgnmaaOpn
import Derived.Test.YtcallnhkojgnmaaAges
namespace Go.Proofs.Ytcallnhkojgnmaa.Q
open Go.ChangeShapes Go.WideShapes Go.Deep Go.RowKit Go.Joins Go.Sort Go.Shelf
open Go.Proofs.Ytcallnhkojgnmaa.Ma
set_option linter.unusedVariables false
set_option linter.unusedSimpArgs false
theorem u16_wf {x : Int} (h : (Lit.int .u16 x).wf = true) : 0 ≤ x ∧ x ≤ 65535 := by
  simp only [Lit.wf, IntKind.min, IntKind.max, IntKind.signed, IntKind.bits] at h
  simp at h
  omega
section
variable {H : Type} {enc : TypeId × Value → H} {W : World}
theorem two8 {v : Value} {d : DataW H} {p : List MemPlace} {r : Reach} {b0 : Nat} (hv : Value.okWide Try.prog W r b0 53 v) (h : DataW.Trod enc Try.prog W 0 (fun _ => true) true 53 v d p) :
    ∃ x y : Int, v = .agg #[.int .u8 x, .int .u8 y] ∧ (0 ≤ x ∧ x ≤ 255) ∧ 0 ≤ y ∧ y ≤ 255 := by
  simp only [Value.okWide, Try.underlying53] at hv
  obtain ⟨cs, rfl, hsz, _⟩ := hv
  obtain ⟨c0, c1, rfl⟩ := array2 (hsz.trans (by kernel_rfl : Try.prog.cellsOf 53 = 2))
  obtain ⟨fuel, hf⟩ := h
  obtain ⟨xs, m, _, _, _, hl, hi⟩ := DataW.trod_array Try.underlying53 hf
  have h0 := hi 0 (by omega)
  have h1 := hi 1 (by omega)
  rw [show Try.prog.cellsOf 5 = 1 by kernel_rfl] at h0 h1
  rw [List.getElem?_eq_getElem (by omega)] at h0 h1
  obtain ⟨x, e0, _, w0⟩ := DataW.trod_int Try.underlying5 h0
  obtain ⟨y, e1, _, w1⟩ := DataW.trod_int Try.underlying5 h1
  simp [Value.cells] at e0 e1
  subst e0 e1
  exact ⟨x, y, rfl, u8_wf w0, u8_wf w1⟩
theorem two64 {v : Value} {d : DataW H} {p : List MemPlace} {r : Reach} {b0 : Nat} (hv : Value.okWide Try.prog W r b0 54 v) (h : DataW.Trod enc Try.prog W 0 (fun _ => true) true 54 v d p) :
    ∃ x y : Int, v = .agg #[.int .i64 x, .int .i64 y] := by
  simp only [Value.okWide, Try.underlying54] at hv
  obtain ⟨cs, rfl, hsz, _⟩ := hv
  obtain ⟨c0, c1, rfl⟩ := array2 (hsz.trans (by kernel_rfl : Try.prog.cellsOf 54 = 2))
  obtain ⟨fuel, hf⟩ := h
  obtain ⟨xs, m, _, _, _, hl, hi⟩ := DataW.trod_array Try.underlying54 hf
  have h0 := hi 0 (by omega)
  have h1 := hi 1 (by omega)
  rw [show Try.prog.cellsOf 3 = 1 by kernel_rfl] at h0 h1
  rw [List.getElem?_eq_getElem (by omega)] at h0 h1
  obtain ⟨x, e0, _, w0⟩ := DataW.trod_int Try.underlying3 h0
  obtain ⟨y, e1, _, w1⟩ := DataW.trod_int Try.underlying3 h1
  simp [Value.cells] at e0 e1
  subst e0 e1
  exact ⟨x, y, rfl⟩
end
theorem ages_all (p0 p1 i0 i1 more : Int) (hp0 : 0 ≤ p0 ∧ p0 ≤ 255) (hp1 : 0 ≤ p1 ∧ p1 ≤ 255) (hmo : (Lit.int .u16 more).wf = true) (w : World) : Calls Try.prog 6 #[.agg #[.int .u8 p0, .int .u8 p1], .agg #[.int .i64 i0, .int .i64 i1], .int .u16 more] w fun e w' => e = .returned (.bool true) ∧ Below w.heap.size w w' := by
  by_cases h : i0 = i1
  · subst h
    exact ages_same p0 p1 i0 more w
  · exact ages_at p0 p1 i0 i1 more hp0 hp1 h (u16_wf hmo) w
end Go.Proofs.Ytcallnhkojgnmaa.Q
