/- ShardsAll's arguments, opened to cells. Conditions: none but that they read. -/
import Derived.Test.YtdlmkdldmiiaiaaAll
import Derived.Test.YtdlmkdldmiiaiaaOpb
namespace Go.Proofs.Ytdlmkdldmiiaiaa.E
open Go.ChangeShapes Go.WideShapes Go.Deep Go.RowKit Go.Joins Go.Sort Go.Shelf
open Go.Proofs.Ytdlmkdldmiiaiaa.Ma Go.Proofs.Ytdlmkdldmiiaiaa.By
set_option linter.unusedVariables false
set_option linter.unusedSimpArgs false
set_option maxRecDepth 100000 in
theorem all_great (A : Option Addr) (len cap : Nat) (x y : Int) (w : World) (hl : len ≤ 9223372036854775807) (h2 : 400 < len) : Calls Try.prog 9 #[.int .u8 x, .int .u8 y, .slice A len cap] w fun e w' => e = .returned (.bool true) ∧ Below w.heap.size w w' := by
  have h3 : (400 : Int) < len := by omega
  go_enter Try.func9, Try.ntmps9
  go_wp2
  go_ret
  exact ⟨rfl, Below.refl _ _⟩
set_option maxRecDepth 100000 in
theorem all_law {H : Type} {enc : TypeId × Value → H} {x y : Int} {v2 : Value} {d2 : DataW H} {p2 : List MemPlace} {r : Reach} {b2 : Nat} (W : World) (hx : (Lit.int .u8 x).wf = true) (hy : (Lit.int .u8 y).wf = true) (hv2 : Value.okWide Try.prog W r b2 46 v2)
    (h2 : DataW.Trod enc Try.prog W 0 (fun _ => true) true 46 v2 d2 p2) : Calls Try.prog 9 #[.int .u8 x, .int .u8 y, v2] W fun e w' => e = .returned (.bool true) ∧ Below W.heap.size W w' := by
  obtain ⟨A1, n1, c1, rfl⟩ := okWide_slice Try.underlying46 hv2
  obtain ⟨hc, P, rfl, hL, hb8⟩ := pairs_of h2
  by_cases hl : P.length ≤ 400
  · exact all_at A1 c1 x y P W (u8_wf hx) (u8_wf hy) hl hL hb8
  · exact all_great A1 P.length c1 x y W hc (by omega)
end Go.Proofs.Ytdlmkdldmiiaiaa.E
