/- The order of edges; lists held against each other. Conditions: those that each theorem names. -/
import Derived.Test.YtdlmkdldmiiaiaaE
namespace Go.Proofs.Ytdlmkdldmiiaiaa.D
open Go.RowKit Go.Sort Go.Shelf
open Go.Proofs.Ytdlmkdldmiiaiaa.Ma
set_option linter.unusedVariables false
set_option linter.unusedSimpArgs false
/-- x comes ahead of y. -/
def Ahead (x y : Ed) : Prop := x.1 < y.1 ∨ (x.1 = y.1 ∧ x.2 < y.2)
instance (x y : Ed) : Decidable (Ahead x y) := by unfold Ahead; infer_instance
theorem cmp_neg (x y : Int) : Lib.compareInt x y < 0 ↔ x < y := by
  unfold Lib.compareInt
  by_cases h1 : x < y
  · simp [h1]
  · by_cases h2 : x > y <;> simp [h1, h2]
theorem cmp_zero (x y : Int) : Lib.compareInt x y = 0 ↔ x = y := by
  unfold Lib.compareInt
  by_cases h1 : x < y
  · simp [h1]; omega
  · by_cases h2 : x > y
    · simp [h1, h2]; omega
    · simp [h1, h2]; omega
theorem cf_neg (x y : Ed) : cf x y < 0 ↔ Ahead x y := by
  unfold cf orZ Ahead
  by_cases h : Lib.compareInt x.1 y.1 = 0
  · rw [if_pos h, cmp_neg]
    have := (cmp_zero _ _).1 h
    omega
  · rw [if_neg h, cmp_neg]
    have := mt (cmp_zero _ _).2 h
    omega
theorem lt_true (x y : Ed) : ltOf cf x y = true ↔ Ahead x y := by unfold ltOf; rw [decide_eq_true_eq, cf_neg]
theorem lt_false (x y : Ed) : ltOf cf x y = false ↔ ¬ Ahead x y := by rw [← lt_true]; simp
theorem swo : SWO (ltOf cf) where
  irrefl x := by rw [lt_false]; unfold Ahead; omega
  trans x y z h1 h2 := by rw [lt_true] at *; unfold Ahead at *; omega
  ntrans x y z h1 h2 := by rw [lt_false] at *; unfold Ahead at *; omega
theorem cmpLays (blk off size : Nat) (w : World) : CmpLays Try.prog 59 #[] enc2 2 cf blk off size w := fun m os dk hs x y => by_any x y _
theorem enters27 : ∀ args w, (callFunc 59 args).run Try.prog w = .ok (.enter 59 args) w := enters_of Try.func59 (by kernel_rfl) rfl
abbrev Order (M : List Ed) : Prop := M.Pairwise fun x y => ¬ Ahead y x
theorem sort_some (B g c : Nat) (L : List Ed) (w : World) (h : w.ownsRow B 41 2 (.slice (some ⟨g, 0, none⟩) L.length c) L.length (cellsK enc2 L)) (hlen : L.length ≤ 1000000) :
    Calls Try.prog 79 #[.slice (some ⟨g, 0, none⟩) L.length c, .func (.func 59) #[] #[]] w fun e w' => e = .returned (.tuple #[]) ∧ ∃ M : List Ed, M.Perm L ∧ Order M ∧ w'.ownsRow B 41 2 (.slice (some ⟨g, 0, none⟩) L.length c) L.length (cellsK enc2 M) ∧ Fr (fun k => k = g) w w' := by
  have hg : g < w.heap.size := by
    rcases h.2 with ⟨e, _⟩ | ⟨g', cap, cur, e, _, hh, _⟩
    · cases e
    · cases e; exact lt_of_heap hh
  have hcon := AnyQ.slices_SortFunc Try.sortQ 2 Try.isAgg41 Try.sizeOf41 enc2 enc2_len enc2_one cf swo 59 #[] g 0 c L.toArray w enters27 (cmpLays g 0 _ w) (row_holds enc2_len h) hg (by simp; omega)
  change Calls Try.prog 79 _ _ _ at hcon
  have e2 : L.toArray.size = L.length := by simp
  rw [e2] at hcon
  refine hcon.mono ?_
  rintro e w' ⟨he, d', n, os, hp, hs, rfl⟩
  have hsz : d'.size = L.length := hp.1
  obtain ⟨r1, r2⟩ := row_sorted (n := n) (os := os) enc2_len h hsz
  refine ⟨he, d'.toList, ?_, ?_, r1, r2⟩
  · have := hp.2.2
    have e3 : d'.toList.take L.length = d'.toList := List.take_of_length_le (by simp [hsz])
    simp [hsz, e3] at this
    exact this
  · refine List.pairwise_iff_getElem.2 fun i j hi hj hij => ?_
    have hi' : i < d'.size := by simpa using hi
    have hj' : j < d'.size := by simpa using hj
    have := hs i j (Nat.zero_le _) hij (by omega)
    rw [lt_false] at this
    simpa [hi', hj'] using this
theorem sort_nil (cap : Nat) (fv : Value) (w : World) : Calls Try.prog 79 #[.slice none 0 cap, fv] w fun e w' => e = .returned (.tuple #[]) ∧ w = w' :=
  (AnyF.slices_SortFunc_none Try.sortQ none cap fv w).mono fun _ _ ⟨he, hw⟩ => ⟨he, hw.symm⟩
theorem sort_row (B : Nat) (v : Value) (L : List Ed) (w : World) (h : w.ownsRow B 41 2 v L.length (cellsK enc2 L)) (hlen : L.length ≤ 1000000) :
    Calls Try.prog 79 #[v, .func (.func 59) #[] #[]] w fun e w' => e = .returned (.tuple #[]) ∧ ∃ M : List Ed, M.Perm L ∧ Order M ∧ w'.ownsRow B 41 2 v L.length (cellsK enc2 M) ∧ Fr (fun k => v.ownBlock = some k) w w' := by
  rcases h.2 with ⟨rfl, hn⟩ | ⟨g, cap, cur, rfl, _⟩
  · obtain rfl : L = [] := List.length_eq_zero_iff.1 hn
    refine (sort_nil 0 _ w).mono ?_
    rintro e w' ⟨he, rfl⟩
    exact ⟨he, [], List.Perm.refl _, List.Pairwise.nil, h, Fr.refl _ _⟩
  · refine (sort_some B g cap L w h hlen).mono ?_
    rintro e w' ⟨he, M, h1, h2, h3, h4⟩
    exact ⟨he, M, h1, h2, h3, h4.mono (fun k hk => by rw [show k = g from hk]; rfl)⟩
theorem ahead_tri (x y : Ed) (h1 : ¬ Ahead x y) (h2 : ¬ Ahead y x) : x = y := by
  unfold Ahead at *
  exact Prod.ext (by omega) (by omega)
/-- A list in order is one alone. -/
theorem order_unique {M N : List Ed} (h : M.Perm N) (oM : Order M) (oN : Order N) : M = N :=
  List.Perm.eq_of_pairwise (le := fun x y => ¬ Ahead y x) (fun a b _ _ h1 h2 => ahead_tri a b h2 h1) oM oN h
theorem eq24 (x1 x2 y1 y2 : Int) (w : World) : (binOp .eql 41 (.agg #[.int .i64 x1, .int .i64 x2]) (.agg #[.int .i64 y1, .int .i64 y2])).run Try.prog w = .ok (.bool (decide (x1 = y1 ∧ x2 = y2))) w := by
  have u3 := Try.underlying3
  have a3 := Try.isAgg3
  have z3 := Try.sizeOf3
  have hS : Try.prog.underlying 41 = some (.struct (Try.prog.fieldsOf 41)) := by kernel_rfl
  have hp : Try.prog.stoodInHeld 41 = false := by kernel_rfl
  rw [run_eql_struct, show (10000 : Nat) = 9999 + 1 from rfl, run_equalIn_agg w 9999 41 _ _ hS hp]
  simp only [Program.fieldsOf, Try.underlying41]
  go_simp
  by_cases h1 : x1 = y1 <;> by_cases h2 : x2 = y2 <;> simp [h1, h2]
theorem neq24 (x1 x2 y1 y2 : Int) (w : World) : (binOp .neq 41 (.agg #[.int .i64 x1, .int .i64 x2]) (.agg #[.int .i64 y1, .int .i64 y2])).run Try.prog w = .ok (.bool (!decide (x1 = y1 ∧ x2 = y2))) w := by
  have u3 := Try.underlying3
  have a3 := Try.isAgg3
  have z3 := Try.sizeOf3
  have hS : Try.prog.underlying 41 = some (.struct (Try.prog.fieldsOf 41)) := by kernel_rfl
  have hp : Try.prog.stoodInHeld 41 = false := by kernel_rfl
  rw [run_neq_struct, show (10000 : Nat) = 9999 + 1 from rfl, run_equalIn_agg w 9999 41 _ _ hS hp]
  simp only [Program.fieldsOf, Try.underlying41]
  go_simp
  by_cases h1 : x1 = y1 <;> by_cases h2 : x2 = y2 <;> simp [h1, h2]
/-- The two cells of an edge that lies there. -/
theorem lies2 {w : World} {A : Option Addr} {L : List Ed} (h : Lies enc2 2 w A L) {j : Nat} {x1 x2 : Int} (hx : L[j]? = some (x1, x2)) :
    ∃ b o, A = some ⟨b, o, none⟩ ∧ b < w.heap.size ∧ w.cell? ⟨b, o + j * 2, none⟩ = some (.int .i64 x1) ∧ w.cell? ⟨b, o + j * 2 + 1, none⟩ = some (.int .i64 x2) := by
  obtain ⟨b, o, e, hb, hc⟩ := h j _ hx
  exact ⟨b, o, e, hb, hc 0 _ rfl, hc 1 _ rfl⟩
theorem lies1 {w : World} {A : Option Addr} {L : List Int} (h : Lies encI 1 w A L) {j : Nat} {x : Int} (hx : L[j]? = some x) :
    ∃ b o, A = some ⟨b, o, none⟩ ∧ b < w.heap.size ∧ w.cell? ⟨b, o + j, none⟩ = some (.int .i64 x) := by
  obtain ⟨b, o, e, hb, hc⟩ := h j _ hx
  have := hc 0 _ rfl
  rw [Nat.mul_one, Nat.add_zero] at this
  exact ⟨b, o, e, hb, this⟩
theorem same_at (A1 A2 : Option Addr) (c1 c2 : Nat) (L : List Ed) (w : World) (h1 : Lies enc2 2 w A1 L) (h2 : Lies enc2 2 w A2 L) (hlen : L.length ≤ 1000000) :
    Calls Try.prog 13 #[.slice A1 L.length c1, .slice A2 L.length c2] w fun e w' => e = .returned (.bool true) ∧ ∃ m, w' = w.drewN m := by
  have H1 := Lib.hid h1
  have H2 := Lib.hid h2
  have HLen := Lib.hid hlen
  clear h1 h2
  go_enter Try.func13, Try.ntmps13
  go_wp2
  go_loopw [5] (fun i wr => ∃ (j m : Nat), j ≤ L.length ∧ i = .int .i64 j ∧ wr = w.drewN m) (fun i _ => L.length - (intOf i).toNat)
  case atStart => exact ⟨0, 0, by omega, rfl, rfl⟩
  case round =>
    obtain ⟨j, m, hj, rfl, rfl⟩ := hrel
    by_cases hlt : j < L.length
    · obtain ⟨⟨x1, x2⟩, hx⟩ : ∃ p, L[j]? = some p := ⟨L[j], List.getElem?_eq_getElem _⟩
      obtain ⟨b1, o1, rfl, hb1, p0, p1⟩ := lies2 H1.out hx
      obtain ⟨b2, o2, rfl, hb2, q0, q1⟩ := lies2 H2.out hx
      have neq := neq24 x1 x2 x1 x2
      rw [show decide (x1 = x1 ∧ x2 = x2) = true by simp] at neq
      have i1 : (j : Int) < (L.length : Int) := by omega
      clear hx hb1 hb2 hj
      go_wp2
      go_quiet (fail)
      go_wp2
      go_roundw
      case rel => exact ⟨j + 1, _, by omega, by have := HLen.out; go_num, rfl⟩
      case measure => simp [intOf]; omega
    · obtain rfl : j = L.length := by omega
      go_wp2
      go_ret
      exact ⟨rfl, m, rfl⟩
theorem sameI_at (A1 A2 : Option Addr) (c1 c2 : Nat) (L : List Int) (w : World) (h1 : Lies encI 1 w A1 L) (h2 : Lies encI 1 w A2 L) (hlen : L.length ≤ 1000000) :
    Calls Try.prog 28 #[.slice A1 L.length c1, .slice A2 L.length c2] w fun e w' => e = .returned (.bool true) ∧ ∃ m, w' = w.drewN m := by
  have H1 := Lib.hid h1
  have H2 := Lib.hid h2
  have HLen := Lib.hid hlen
  clear h1 h2
  go_enter Try.func28, Try.ntmps28
  go_wp2
  go_loopw [5] (fun i wr => ∃ (j m : Nat), j ≤ L.length ∧ i = .int .i64 j ∧ wr = w.drewN m) (fun i _ => L.length - (intOf i).toNat)
  case atStart => exact ⟨0, 0, by omega, rfl, rfl⟩
  case round =>
    obtain ⟨j, m, hj, rfl, rfl⟩ := hrel
    by_cases hlt : j < L.length
    · obtain ⟨x, hx⟩ : ∃ p, L[j]? = some p := ⟨L[j], List.getElem?_eq_getElem _⟩
      obtain ⟨b1, o1, rfl, hb1, p0⟩ := lies1 H1.out hx
      obtain ⟨b2, o2, rfl, hb2, q0⟩ := lies1 H2.out hx
      have i1 : (j : Int) < (L.length : Int) := by omega
      clear hx hb1 hb2 hj
      go_wp2
      go_quiet (fail)
      go_wp2
      go_roundw
      case rel => exact ⟨j + 1, _, by omega, by have := HLen.out; go_num, rfl⟩
      case measure => simp [intOf]; omega
    · obtain rfl : j = L.length := by omega
      go_wp2
      go_ret
      exact ⟨rfl, m, rfl⟩
end Go.Proofs.Ytdlmkdldmiiaiaa.D
