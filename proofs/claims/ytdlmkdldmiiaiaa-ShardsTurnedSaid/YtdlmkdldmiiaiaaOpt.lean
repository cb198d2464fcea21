/- ShardsTurned's arguments, opened to cells. Conditions: none but that they read. -/
import Derived.Test.YtdlmkdldmiiaiaaTrn
import Derived.Test.YtdlmkdldmiiaiaaOpb
namespace Go.Proofs.Ytdlmkdldmiiaiaa.E
open Go.ChangeShapes Go.WideShapes Go.Deep Go.RowKit Go.Joins Go.Sort Go.Shelf
open Go.Proofs.Ytdlmkdldmiiaiaa.Ma Go.Proofs.Ytdlmkdldmiiaiaa.By
set_option linter.unusedVariables false
set_option linter.unusedSimpArgs false
theorem u32_wf {x : Int} (h : (Lit.int .u32 x).wf = true) : 0 ≤ x ∧ x ≤ 4294967295 := by
  simp only [Lit.wf, IntKind.min, IntKind.max, IntKind.signed, IntKind.bits] at h
  simp at h
  omega
set_option maxRecDepth 100000 in
theorem turned_law {H : Type} {enc : TypeId × Value → H} {v0 v1 v2 : Value} {d0 d1 d2 : DataW H} {p0 p1 p2 : List MemPlace} {r : Reach} {b0 b1 b2 : Nat} (W : World) (hv0 : Value.okWide Try.prog W r b0 45 v0) (hv1 : Value.okWide Try.prog W r b1 46 v1) (hv2 : Value.okWide Try.prog W r b2 51 v2)
    (h0 : DataW.Trod enc Try.prog W 0 (fun _ => true) true 45 v0 d0 p0) (h1 : DataW.Trod enc Try.prog W 0 (fun _ => true) true 46 v1 d1 p1) (h2 : DataW.Trod enc Try.prog W 0 (fun _ => true) true 51 v2 d2 p2) : Calls Try.prog 8 #[v0, v1, v2] W fun e w' => e = .returned (.bool true) ∧ Below W.heap.size W w' := by
  obtain ⟨x, y, rfl, hx, hy⟩ := open_arr2int Try.underlying45 Try.underlying5 (by kernel_rfl) (by kernel_rfl) hv0 h0
  obtain ⟨A1, n1, c1, rfl⟩ := okWide_slice Try.underlying46 hv1
  obtain ⟨hc, P, rfl, hL, hb8⟩ := pairs_of h1
  obtain ⟨p, b, rfl, hp, hb⟩ := open_arr2int Try.underlying51 Try.underlying50 (by kernel_rfl) (by kernel_rfl) hv2 h2
  obtain ⟨n, rfl⟩ : ∃ n : Nat, b = (n : Int) := ⟨b.toNat, by have := u32_wf hb; omega⟩
  exact turned_at A1 c1 x y P p n W (u8_wf hx) (u8_wf hy) hc hL hb8 (u32_wf hp) (by have := u32_wf hb; omega)
end Go.Proofs.Ytdlmkdldmiiaiaa.E
