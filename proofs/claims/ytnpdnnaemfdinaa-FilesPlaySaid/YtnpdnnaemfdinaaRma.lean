/- FilesRoom, as its row wants it; arrays opened. Conditions: those that each theorem names. -/
import Derived.Test.YtnpdnnaemfdinaaRom
namespace Go.Proofs.Ytnpdnnaemfdinaa.F
open Go.ChangeShapes Go.WideShapes Go.Deep Go.RowKit Go.Joins Go.Sort Go.Shelf
open Go.Proofs.Ytnpdnnaemfdinaa.Ma
set_option linter.unusedVariables false
set_option linter.unusedSimpArgs false
theorem room_all (a : Int) (hw : (Lit.int .u8 a).wf = true) (A : Option Addr) (len cap : Nat) (L : List Ac) (W : World) (hl : L.length = len) (hm : len ≤ maxLen) (hL : Lies encA 6 W A L) (hA : ∀ a ∈ L, AcAt W a) :
    Calls Try.prog 8 #[.int .u8 a, .slice A len cap] W fun e w' => e = .returned (.bool true) ∧ Below W.heap.size W w' := by
  subst hl
  obtain ⟨k, rfl, hk⟩ := u8_nat hw
  exact room_law k hk A cap L W hL hm hA
section
variable {H : Type} {enc : TypeId × Value → H} {W : World}
set_option maxRecDepth 100000 in
theorem arr2_of {v : Value} {d : DataW H} {p : List MemPlace} {r : Reach} {b0 : Nat} (hv : Value.okWide Try.prog W r b0 57 v) (h : DataW.Trod enc Try.prog W 0 (fun _ => true) true 57 v d p) :
    ∃ (A0 A1 : Option Addr) (c0 c1 : Nat) (P0 P1 : List ByteArray), v = .agg #[.slice A0 P0.length c0, .slice A1 P1.length c1] ∧ P0.length ≤ maxLen ∧ Lies encS 1 W A0 P0 ∧ P1.length ≤ maxLen ∧ Lies encS 1 W A1 P1 := by
  have ht : Try.prog.underlying 57 = some (.array 2 28) := Try.underlying57
  have hC : Try.prog.cellsOf 57 = 2 := by kernel_rfl
  have hE : Try.prog.cellsOf 28 = 1 := by kernel_rfl
  obtain ⟨cs, rfl, hsz, _⟩ : ∃ cs, v = .agg cs ∧ cs.size = Try.prog.cellsOf 57 ∧ Row.okWide Try.prog W r b0 57 cs := by
    simpa [Value.okWide, ht] using hv
  rw [hC] at hsz
  obtain ⟨l⟩ := cs
  obtain ⟨c0, c1, rfl⟩ : ∃ c0 c1, l = [c0, c1] := by
    match l, hsz with
    | [c0, c1], _ => exact ⟨c0, c1, rfl⟩
  obtain ⟨fuel, hf⟩ := h
  obtain ⟨xs, m, _, hx, _, hl, hel⟩ := DataW.trod_array ht hf
  match xs, hl with
  | [y0, y1], _ =>
    have h0 := hel 0 (by omega)
    have h1 := hel 1 (by omega)
    simp only [Value.cells, hE, Nat.zero_mul, Nat.one_mul, List.drop_zero, List.take_succ_cons, List.take_zero, List.drop_succ_cons] at h0 h1
    obtain ⟨A0, k0, P0, rfl, l0, hP0⟩ := texts_of h0
    obtain ⟨A1, k1, P1, rfl, l1, hP1⟩ := texts_of h1
    exact ⟨A0, A1, k0, k1, P0, P1, rfl, l0, hP0, l1, hP1⟩
end
end Go.Proofs.Ytnpdnnaemfdinaa.F
