/- Whether any graph may be, its bytes, and the graph that any bytes say, are the document's: the row. No condition. -/
import Derived.Test.YtnbdplhbkennfaaRows
import Derived.Test.YtnbdplhbkennfaaQManifestTellx12
import Derived.Test.YtnbdplhbkennfaaPureManifestTell
import Derived.WalkKit
import Derived.ProofKit
import Derived.OpenShut
import Derived.ShutString
import Derived.ChangeOld
import Derived.Below
import Derived.SizedLaws
namespace Go.Proofs.Ytnbdplhbkennfaa.manifestTell
open Go.ChangeShapes Go.WideShapes Go.ChangeAt Go.RowKit
open Go.ChangeMaps (open_string shut_string)
set_option linter.unusedVariables false
theorem own : ownKnob Try.prog.godebug = none := by kernel_rfl
theorem laidOut : laidOutB Try.prog = true := by kernel_rfl
theorem cells24 : Try.prog.cellsOf 24 = 3 := by kernel_rfl
theorem cells22 : Try.prog.cellsOf 22 = 1 := by kernel_rfl
theorem cells50 : Try.prog.cellsOf 50 = 2 := by kernel_rfl
theorem cells3 : Try.prog.cellsOf 3 = 1 := by kernel_rfl
theorem open_part {P : Program} {H : Type} {enc : TypeId × Value → H} {W : World} {base : Nat} {sp : Nat → Bool} {held : Bool} {n : Nat} {e t : TypeId} {f g : Field} {cs : List Value} {x : DataW H × List MemPlace} (ht : P.underlying e = some (.struct #[f, g])) (h0 : f.type = t) (h1 : g.type = t) (o0 : f.offset = 0) (o1 : g.offset = 1) (hi : P.underlying t = some (.int .i64)) (hC : P.cellsOf e = 2) (hT : P.cellsOf t = 1)
  (h : DataW.trod enc P W base sp held n e cs = some x) : ∃ a b : Int, cs = [.int .i64 a, .int .i64 b] := by
 obtain ⟨xs, m, _, _, hl, hx, hf⟩ := DataW.trod_struct ht h
 rw [hC] at hl
 obtain ⟨c0, c1, rfl⟩ : ∃ c0 c1, cs = [c0, c1] := by
  match cs, hl with
  | [c0, c1], _ => exact ⟨c0, c1, rfl⟩
 match xs, hx with
 | [y0, y1], _ =>
  have e0 := hf 0 f rfl
  have e1 := hf 1 g rfl
  rw [h0, o0, hT] at e0
  rw [h1, o1, hT] at e1
  simp only [List.drop_zero, List.take_succ_cons, List.take_zero, List.drop_succ_cons] at e0 e1
  obtain ⟨a, q0, _⟩ := DataW.trod_int hi e0
  obtain ⟨b, q1, _⟩ := DataW.trod_int hi e1
  simp only [List.cons.injEq, and_true] at q0 q1
  exact ⟨a, b, by rw [q0, q1]⟩
open QManifestTell Go.Proofs.YtnbdplhbkennfaaW.PrintWords in
/-- A graph that came in: its value, and the list of its parts. -/
theorem open_graph {H : Type} {enc : TypeId × Value → H} {W : World} {b0 : Nat} {r : Reach} {base : Nat} {sp : Nat → Bool} {held : Bool} {v : Value} {d : DataW H} {p : List MemPlace}
  (hv : Value.okWide Try.prog W r b0 24 v) (h : DataW.Trod enc Try.prog W base sp held 24 v d p) :
  ∃ (a b : Int) (A : Option Addr) (c : Nat) (l : List S50), v = .agg #[.int .i64 a, .int .i64 b, .slice A l.length c] ∧ Kd.C k50 W A l.length l ∧ l.length ≤ c := by
 obtain ⟨cs, rfl, hsz, _⟩ : ∃ cs, v = .agg cs ∧ cs.size = Try.prog.cellsOf 24 ∧ Row.okWide Try.prog W r b0 24 cs := by
  simpa [Value.okWide, Try.underlying24] using hv
 rw [cells24] at hsz
 obtain ⟨l⟩ := cs
 obtain ⟨c0, c1, c2, rfl⟩ : ∃ c0 c1 c2, l = [c0, c1, c2] := by
  match l, hsz with
  | [c0, c1, c2], _ => exact ⟨c0, c1, c2, rfl⟩
 obtain ⟨fuel, hf⟩ := h
 obtain ⟨xs, m, _, _, hl, hx, hfs⟩ := DataW.trod_struct Try.underlying24 hf
 match xs, hx with
 | [y0, y1, y2], _ =>
  have e0 : DataW.trod enc Try.prog W base sp held m 3 [c0] = some y0 := by have := hfs 0 _ rfl; simpa [Value.cells, cells3] using this
  have e1 : DataW.trod enc Try.prog W base sp held m 3 [c1] = some y1 := by have := hfs 1 _ rfl; simpa [Value.cells, cells3] using this
  have e2 : DataW.trod enc Try.prog W base sp held m 22 [c2] = some y2 := by have := hfs 2 _ rfl; simpa [Value.cells, cells22] using this
  obtain ⟨a, q0, _⟩ := DataW.trod_int Try.underlying3 e0
  obtain ⟨b, q1, _⟩ := DataW.trod_int Try.underlying3 e1
  simp only [List.cons.injEq, and_true] at q0 q1
  subst q0 q1
  rcases DataW.trod_slice Try.underlying22 e2 with ⟨q2, _⟩ | ⟨ad, len, cap, elems, rest, n, _, q2, _, _, hle, hm, hlen, hel, _, _⟩
  ·simp only [List.cons.injEq, and_true] at q2
   subst q2
   exact ⟨a, b, none, 0, [], rfl, ⟨rfl, by simp, fun h => absurd h (by simp)⟩, by simp⟩
  ·simp only [List.cons.injEq, and_true] at q2
   subst q2
   have each : ∀ i, i < len → ∃ x y : Int, W.cells? base (ad.add (i * 2)) 2 = some [.int .i64 x, .int .i64 y] := by
    intro i hi
    have h := hel i hi
    rw [cells50, List.getElem?_eq_getElem (by omega), Option.bind_eq_some_iff] at h
    obtain ⟨cs, h1, h2⟩ := h
    obtain ⟨x, y, rfl⟩ := open_part Try.underlying50 rfl rfl rfl rfl Try.underlying3 cells50 cells3 h2
    exact ⟨x, y, h1⟩
   classical
   let g : Nat → S50 := fun i => if h : i < len then ⟨(each i h).choose, (each i h).choose_spec.choose⟩ else ⟨0, 0⟩
   have hg : ∀ i, i < len → W.cells? base (ad.add (i * 2)) 2 = some [.int .i64 (g i).f0, .int .i64 (g i).f1] := by
    intro i hi
    have := (each i hi).choose_spec.choose_spec
    simp only [g, dif_pos hi]
    exact this
   have hll : ((List.range len).map g).length = len := by simp
   refine ⟨a, b, some ad, cap, (List.range len).map g, by rw [hll], ?_, by rw [hll]; exact hle⟩
   rw [hll]
   refine ⟨hll, by unfold maxLen at hm; omega, fun _ => ⟨ad, rfl, fun j p hp => ?_⟩⟩
   have hj : j < len := by
    have := (List.getElem?_eq_some_iff.1 hp).1
    rwa [hll] at this
   obtain rfl : g j = p := by
    rw [List.getElem?_map, List.getElem?_range hj] at hp
    exact Option.some.inj hp
   refine ⟨_, rfl, k50_mk _ _, fun i u hu => ?_⟩
   obtain ⟨_, _, hc2⟩ := World.cells?_some (hg j hj)
   have hi : i < 2 := (List.getElem?_eq_some_iff.1 hu).1
   have ha : (ad.add (j * 2)).add i = ad.add (j * 2 + i) := Addr.add_add _ _ _
   have := hc2 i hi
   rw [ha] at this
   exact this.trans hu
set_option maxRecDepth 100000 in
theorem lifted (os : Os) (started : os.Started) (H : Type) (enc : TypeId × Value → H) :
  ReturnsInHanded {} Try.checked os 3 .any (Rows.manifestTellSpec.pre6 enc Try.prog Try.f3 Rows.manifestTellRow.domain false) (Rows.manifestTellSpec.post enc Try.prog Try.f3 false true false false) := by
 refine returnsInHanded_of_change_sized (C := Try.checked) own started (by kernel_rfl) Try.func3
  (ChangeSpec.witness6 (enc := enc) (C := Try.checked) false ⟨#[], #[.agg #[.int .i64 0, .int .i64 0, .slice none 0 0], .string ByteArray.empty], []⟩ 8 (by kernel_rfl) (by kernel_rfl) (by kernel_rfl) (by kernel_rfl)) ?_
 intro W base args ds gs before hval0 hW hcnd hsz0 _
 have hsz : (DataW.weightsEach Try.prog (Try.f3.params.toList ++ Rows.manifestTellSpec.plain.varTypes Try.prog) (ds ++ gs)).all (· ≤ reachBytes) = true := hsz0
 have hval : ∀ (j : Nat) t v, Try.f3.params[j]? = some t → args[j]? = some v → Value.okWide Try.prog W .any base t v := hval0
 have hW' := hW
 obtain ⟨p, q, hA0, hV, rfl, hfz, hnd⟩ := hW
 have hA : DataW.TrodAll enc Try.prog W 0 (fun _ => true) true Try.f3.params.toList args.toList ds p := hA0
 rw [Try.params3] at hA hval hsz
 obtain ⟨v0, vs0, d0, ds0, p0, q0, hargs, rfl, rfl, h0, r0⟩ := trodAll_cons hA
 obtain ⟨v1, vs1, d1, ds1, p1, q1, rfl, rfl, rfl, h1, r1⟩ := trodAll_cons r0
 obtain ⟨rfl, rfl, rfl⟩ := trodAll_nil r1
 obtain rfl : args = #[v0, v1] := by cases args; simp_all
 obtain ⟨rfl, rfl⟩ := trodVars_none hV
 have k0 := h0
 have lt0 : ∀ x ∈ p0, x.block < W.heap.size := by obtain ⟨m, hm⟩ := k0; exact DataW.trod_lt m _ _ _ hm
 obtain ⟨a, b, A, c, l, rfl, hC, hc⟩ := open_graph (hval 0 24 v0 rfl rfl) h0
 obtain ⟨s, rfl, rfl, rfl, y1⟩ := open_string Try.underlying9 (hval 1 9 v1 rfl rfl) h1
 clear hA0 hval0 hsz0 hsz
 obtain ⟨k, hk⟩ := Pure.ManifestTell a b l s
 refine (QManifestTell.carousellaw11_ManifestTell.calls k a b A c l s W hC hc hk).mono fun e W' ⟨he, bel⟩ => ?_
 subst he
 exact ⟨_, rfl, _, _, _, [], _, [], hW', trodAll_mk1 (shut_bool Try.underlying4 _), (trodAll_cons_mk (Below.trod laidOut (by kernel_rfl) (of_decide_eq_true (by kernel_rfl)) k0 bel lt0) (trodAll_cons_mk (shut_string Try.underlying9 y1) trodAll_mk0)), rfl, bel.frame _, fun h => by cases h⟩
theorem over : Rows.manifestTellRow.holds Try.pinned (OpenSpec.ofChange Rows.manifestTellSpec) :=
 OpenClaim.holds_of_wide 3 Try.f3 rfl rfl rfl rfl rfl rfl rfl ⟨rfl, rfl, rfl, rfl, rfl⟩ rfl rfl rfl rfl rfl (by kernel_rfl) Try.func3 (by kernel_rfl)
  (of_decide_eq_true (by kernel_rfl)) (by unfold Func.isWrapper; first | (rw [if_pos (by decide +kernel)]; kernel_rfl) | (rw [if_neg (by decide +kernel)]; exact ⟨rfl, rfl⟩))
  (fun os started H enc _ => lifted os started H enc)
theorem proved : Rows.ManifestTellSaid := over
#print axioms proved
end Go.Proofs.Ytnbdplhbkennfaa.manifestTell
namespace Go.Proofs.Ytnbdplhbkennfaa
/-- The row, under a short name, for the claim. -/
theorem manifestTell_holds : Rows.ManifestTellSaid := manifestTell.proved
end Go.Proofs.Ytnbdplhbkennfaa
