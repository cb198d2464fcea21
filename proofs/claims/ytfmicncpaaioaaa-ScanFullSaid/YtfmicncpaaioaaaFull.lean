/- ScanFull, walked: four are the most. Conditions: the number is of its kind. -/
import Derived.Test.YtfmicncpaaioaaaStp
namespace Go.Proofs.Ytfmicncpaaioaaa.Sc
open Go.RowKit Go.Maps Go.Sort Go.Shelf
open Go.Proofs.Ytfmicncpaaioaaa.Ma
set_option linter.unusedVariables false
set_option linter.unusedSimpArgs false
def firstN (v : Bool) (k : Nat) : List Ent := (List.range k).map fun (i : Nat) => ((i : Int), v)
def ls (r : Int) : List Int := [0, 1, 2, 3].filter fun i => !(i == r)
def stL (r : Int) (k : Nat) : List Ent := ((ls r).zipIdx.map fun p => (p.1, decide (k ≤ p.2))) ++ [(50, false)]
theorem Fr.cell {S : Nat → Prop} {w w' : World} (h : Fr S w w') {k i : Nat} {v : Value} (hv : w.cell? ⟨k, i, none⟩ = some v) (hk : k < w.heap.size) (hS : ¬ S k) : w'.cell? ⟨k, i, none⟩ = some v := by
  have : w'.cell? ⟨k, i, none⟩ = w.cell? ⟨k, i, none⟩ := by simp [World.cell?, h.block k hk hS]
  rw [this, hv]
set_option maxHeartbeats 1000000 in
theorem full_at (x r : Int) (hx : 0 ≤ x) (hx2 : x ≤ 255) (hr : x % 4 = r) (w : World) : Calls Try.prog 6 #[.int .u8 x] w fun e w' => e = .returned (.bool true) ∧ Below w.heap.size w w' := by
  have hc : IntKind.i64.wrap x = x := IntWalk.i64_in _ ⟨by omega, by omega⟩
  have hm0 : (x.tmod 4) = r := by rw [← hr]; exact Int.tmod_eq_emod_of_nonneg hx
  have hmw : IntKind.i64.wrap r = r := IntWalk.i64_in _ ⟨by omega, by omega⟩
  have hrr : r = 0 ∨ r = 1 ∨ r = 2 ∨ r = 3 := by omega
  clear hr
  go_enter Try.func6, Try.ntmps6
  go_wp2_with fail
  refine (new_step w w 3 (by omega) (by omega) (Below.refl _ _)).mono ?_
  rintro e w1 ⟨b, bm, rfl, h1, _, _, _⟩
  go_wp2_with fail
  go_loopw [5] (fun i wr => ∃ k : Nat, k ≤ 4 ∧ i = .int .i64 k ∧ St w wr b bm 3 (-1) (firstN false k)) (fun i _ => 4 - (intOf i).toNat)
  case atStart => exact ⟨0, by omega, rfl, h1⟩
  case round =>
    obtain ⟨k, hk, rfl, h⟩ := hrel
    match k, hk with
    | 0, _ =>
      go_wp2_with (go_at_call 11; refine (att_step h (id := 0) (c := 0) (L' := firstN false 1) (by decide) (by decide)).mono ?_; rintro e w2 ⟨rfl, h2, _⟩)
      go_roundw
      case rel => exact ⟨1, by omega, rfl, h2⟩
      case measure => simp [intOf]
    | 1, _ =>
      go_wp2_with (go_at_call 11; refine (att_step h (id := 1) (c := 0) (L' := firstN false 2) (by decide) (by decide)).mono ?_; rintro e w2 ⟨rfl, h2, _⟩)
      go_roundw
      case rel => exact ⟨2, by omega, rfl, h2⟩
      case measure => simp [intOf]
    | 2, _ =>
      go_wp2_with (go_at_call 11; refine (att_step h (id := 2) (c := 0) (L' := firstN false 3) (by decide) (by decide)).mono ?_; rintro e w2 ⟨rfl, h2, _⟩)
      go_roundw
      case rel => exact ⟨3, by omega, rfl, h2⟩
      case measure => simp [intOf]
    | 3, _ =>
      go_wp2_with (go_at_call 11; refine (att_step h (id := 3) (c := 0) (L' := firstN false 4) (by decide) (by decide)).mono ?_; rintro e w2 ⟨rfl, h2, _⟩)
      go_roundw
      case rel => exact ⟨4, by omega, rfl, h2⟩
      case measure => simp [intOf]
    | 4, _ =>
      go_wp2_with fail
      refine (adv_step h (i := 0) (c := 0) (a' := 0) (L' := firstN true 4) (by decide)).mono ?_
      rintro e w2 ⟨rfl, h2, _⟩
      go_wp2_with fail
      refine (att_step h2 (id := 50) (c := 230) (L' := firstN true 4) (by decide) (by decide)).mono ?_
      rintro e w3 ⟨rfl, h3, _⟩
      rcases hrr with rfl | rfl | rfl | rfl
      · clear hm0 hmw hc
        go_wp2_with fail
        refine (att_step h3 (id := 0) (c := 2) (L' := firstN true 4) (by decide) (by decide)).mono ?_
        rintro e w4 ⟨rfl, h4, _⟩
        go_wp2_with fail
        refine (wait_step h4 (l := [0, 1, 2, 3]) (by decide)).mono ?_
        rintro e w5 ⟨A5, c5, rfl, ⟨_, _⟩, _, h5, _⟩
        simp only [List.length_cons, List.length_nil] at *
        go_wp2_with fail
        refine (det_step h5 (id := 0) (c := 0) (L' := firstN true 4 |> del 0) (by decide) (by decide)).mono ?_
        rintro e w6 ⟨rfl, h6, _⟩
        go_wp2_with fail
        refine (att_step h6 (id := 50) (c := 0) (L' := stL 0 0) (by decide) (by decide)).mono ?_
        rintro e w7 ⟨rfl, h7, _⟩
        go_wp2_with fail
        refine (wait_step h7 (l := [1, 2, 3]) (by decide)).mono ?_
        rintro e w8 ⟨A, c, rfl, ⟨hc1, hc2⟩, hi, h8, _⟩
        obtain ⟨g, rfl, hg0, hg1, q0, _⟩ := hi 0 _ rfl
        obtain ⟨g', e', _, _, q1, _⟩ := hi 1 _ rfl
        cases e'
        obtain ⟨g', e', _, _, q2, _⟩ := hi 2 _ rfl
        cases e'
        have nb : g ≠ b := by have := lt_of_heap h7.lies.1; omega
        have nm : g ≠ bm := by have := h7.lies.2.lt; omega
        simp only [List.length_cons, List.length_nil] at hc1 hc2 ⊢
        clear h h1 h2 h3 h4 h5 h6 hi h7
        go_wp2_with fail
        refine (ser_step h8 (id := 50) (c := 4) (L' := stL 0 0) (by decide) (by decide)).mono ?_
        rintro e w9 ⟨rfl, h9, f9⟩
        have q0 := Fr.cell f9 q0 hg1 (fun e => e.elim nb nm)
        have q1 := Fr.cell f9 q1 hg1 (fun e => e.elim nb nm)
        have q2 := Fr.cell f9 q2 hg1 (fun e => e.elim nb nm)
        have hg := Nat.lt_of_lt_of_le hg1 f9.size
        clear f9 h8
        go_wp2
        go_loopw [10] (fun i wr => ∃ k : Nat, k ≤ 3 ∧ i = .int .i64 k ∧ St w wr b bm 3 0 (stL 0 k) ∧ wr.cell? ⟨g, 0, none⟩ = some (.int .i64 1) ∧ wr.cell? ⟨g, 1, none⟩ = some (.int .i64 2) ∧ wr.cell? ⟨g, 2, none⟩ = some (.int .i64 3) ∧ g < wr.heap.size) (fun i _ => 3 - (intOf i).toNat)
        case atStart => exact ⟨0, by omega, rfl, h9, q0, q1, q2, hg⟩
        case round =>
          obtain ⟨k, hk, rfl, h, p0, p1, p2, hg⟩ := hrel
          match k, hk with
          | 0, _ =>
            go_wp2_with (go_at_call 15; refine (ser_step h (id := 1) (c := 0) (L' := stL 0 1) (by decide) (by decide)).mono ?_; rintro e w2 ⟨rfl, h2, f2⟩)
            go_roundw
            case rel => exact ⟨1, by omega, rfl, h2, Fr.cell f2 p0 hg (fun e => e.elim nb nm), Fr.cell f2 p1 hg (fun e => e.elim nb nm), Fr.cell f2 p2 hg (fun e => e.elim nb nm), Nat.lt_of_lt_of_le hg f2.size⟩
            case measure => simp [intOf]
          | 1, _ =>
            go_wp2_with (go_at_call 15; refine (ser_step h (id := 2) (c := 0) (L' := stL 0 2) (by decide) (by decide)).mono ?_; rintro e w2 ⟨rfl, h2, f2⟩)
            go_roundw
            case rel => exact ⟨2, by omega, rfl, h2, Fr.cell f2 p0 hg (fun e => e.elim nb nm), Fr.cell f2 p1 hg (fun e => e.elim nb nm), Fr.cell f2 p2 hg (fun e => e.elim nb nm), Nat.lt_of_lt_of_le hg f2.size⟩
            case measure => simp [intOf]
          | 2, _ =>
            go_wp2_with (go_at_call 15; refine (ser_step h (id := 3) (c := 0) (L' := stL 0 3) (by decide) (by decide)).mono ?_; rintro e w2 ⟨rfl, h2, f2⟩)
            go_roundw
            case rel => exact ⟨3, by omega, rfl, h2, Fr.cell f2 p0 hg (fun e => e.elim nb nm), Fr.cell f2 p1 hg (fun e => e.elim nb nm), Fr.cell f2 p2 hg (fun e => e.elim nb nm), Nat.lt_of_lt_of_le hg f2.size⟩
            case measure => simp [intOf]
          | 3, _ =>
            go_wp2_with fail
            refine (adv_step h (i := 1) (c := 0) (a' := 1) (L' := allT (stL 0 3)) (by decide)).mono ?_
            rintro e w10 ⟨rfl, h10, _⟩
            go_wp2_with fail
            refine (wait_step h10 (l := [1, 2, 3, 50]) (by decide)).mono ?_
            rintro e w11 ⟨A11, c11, rfl, ⟨hc11, hc12⟩, _, h11, _⟩
            simp only [List.length_cons, List.length_nil] at hc11 hc12 ⊢
            go_wp2_with fail
            refine (ser_step h11 (id := 50) (c := 0) (L' := setK 50 false (allT (stL 0 3))) (by decide) (by decide)).mono ?_
            rintro e w12 ⟨rfl, h12, _⟩
            go_wp2_with fail
            refine (ser_step h12 (id := 50) (c := 4) (L' := setK 50 false (allT (stL 0 3))) (by decide) (by decide)).mono ?_
            rintro e w13 ⟨rfl, h13, _⟩
            go_wp2_with (go_at_call 8; refine (rides_calls _).mono ?_; rintro e w14 ⟨rfl, hb14⟩)
            go_ret
            exact ⟨rfl, h13.below.trans (hb14.mono h13.below.size)⟩
      · clear hm0 hmw hc
        go_wp2_with fail
        refine (att_step h3 (id := 1) (c := 2) (L' := firstN true 4) (by decide) (by decide)).mono ?_
        rintro e w4 ⟨rfl, h4, _⟩
        go_wp2_with fail
        refine (wait_step h4 (l := [0, 1, 2, 3]) (by decide)).mono ?_
        rintro e w5 ⟨A5, c5, rfl, ⟨_, _⟩, _, h5, _⟩
        simp only [List.length_cons, List.length_nil] at *
        go_wp2_with fail
        refine (det_step h5 (id := 1) (c := 0) (L' := firstN true 4 |> del 1) (by decide) (by decide)).mono ?_
        rintro e w6 ⟨rfl, h6, _⟩
        go_wp2_with fail
        refine (att_step h6 (id := 50) (c := 0) (L' := stL 1 0) (by decide) (by decide)).mono ?_
        rintro e w7 ⟨rfl, h7, _⟩
        go_wp2_with fail
        refine (wait_step h7 (l := [0, 2, 3]) (by decide)).mono ?_
        rintro e w8 ⟨A, c, rfl, ⟨hc1, hc2⟩, hi, h8, _⟩
        obtain ⟨g, rfl, hg0, hg1, q0, _⟩ := hi 0 _ rfl
        obtain ⟨g', e', _, _, q1, _⟩ := hi 1 _ rfl
        cases e'
        obtain ⟨g', e', _, _, q2, _⟩ := hi 2 _ rfl
        cases e'
        have nb : g ≠ b := by have := lt_of_heap h7.lies.1; omega
        have nm : g ≠ bm := by have := h7.lies.2.lt; omega
        simp only [List.length_cons, List.length_nil] at hc1 hc2 ⊢
        clear h h1 h2 h3 h4 h5 h6 hi h7
        go_wp2_with fail
        refine (ser_step h8 (id := 50) (c := 4) (L' := stL 1 0) (by decide) (by decide)).mono ?_
        rintro e w9 ⟨rfl, h9, f9⟩
        have q0 := Fr.cell f9 q0 hg1 (fun e => e.elim nb nm)
        have q1 := Fr.cell f9 q1 hg1 (fun e => e.elim nb nm)
        have q2 := Fr.cell f9 q2 hg1 (fun e => e.elim nb nm)
        have hg := Nat.lt_of_lt_of_le hg1 f9.size
        clear f9 h8
        go_wp2
        go_loopw [10] (fun i wr => ∃ k : Nat, k ≤ 3 ∧ i = .int .i64 k ∧ St w wr b bm 3 0 (stL 1 k) ∧ wr.cell? ⟨g, 0, none⟩ = some (.int .i64 0) ∧ wr.cell? ⟨g, 1, none⟩ = some (.int .i64 2) ∧ wr.cell? ⟨g, 2, none⟩ = some (.int .i64 3) ∧ g < wr.heap.size) (fun i _ => 3 - (intOf i).toNat)
        case atStart => exact ⟨0, by omega, rfl, h9, q0, q1, q2, hg⟩
        case round =>
          obtain ⟨k, hk, rfl, h, p0, p1, p2, hg⟩ := hrel
          match k, hk with
          | 0, _ =>
            go_wp2_with (go_at_call 15; refine (ser_step h (id := 0) (c := 0) (L' := stL 1 1) (by decide) (by decide)).mono ?_; rintro e w2 ⟨rfl, h2, f2⟩)
            go_roundw
            case rel => exact ⟨1, by omega, rfl, h2, Fr.cell f2 p0 hg (fun e => e.elim nb nm), Fr.cell f2 p1 hg (fun e => e.elim nb nm), Fr.cell f2 p2 hg (fun e => e.elim nb nm), Nat.lt_of_lt_of_le hg f2.size⟩
            case measure => simp [intOf]
          | 1, _ =>
            go_wp2_with (go_at_call 15; refine (ser_step h (id := 2) (c := 0) (L' := stL 1 2) (by decide) (by decide)).mono ?_; rintro e w2 ⟨rfl, h2, f2⟩)
            go_roundw
            case rel => exact ⟨2, by omega, rfl, h2, Fr.cell f2 p0 hg (fun e => e.elim nb nm), Fr.cell f2 p1 hg (fun e => e.elim nb nm), Fr.cell f2 p2 hg (fun e => e.elim nb nm), Nat.lt_of_lt_of_le hg f2.size⟩
            case measure => simp [intOf]
          | 2, _ =>
            go_wp2_with (go_at_call 15; refine (ser_step h (id := 3) (c := 0) (L' := stL 1 3) (by decide) (by decide)).mono ?_; rintro e w2 ⟨rfl, h2, f2⟩)
            go_roundw
            case rel => exact ⟨3, by omega, rfl, h2, Fr.cell f2 p0 hg (fun e => e.elim nb nm), Fr.cell f2 p1 hg (fun e => e.elim nb nm), Fr.cell f2 p2 hg (fun e => e.elim nb nm), Nat.lt_of_lt_of_le hg f2.size⟩
            case measure => simp [intOf]
          | 3, _ =>
            go_wp2_with fail
            refine (adv_step h (i := 1) (c := 0) (a' := 1) (L' := allT (stL 1 3)) (by decide)).mono ?_
            rintro e w10 ⟨rfl, h10, _⟩
            go_wp2_with fail
            refine (wait_step h10 (l := [0, 2, 3, 50]) (by decide)).mono ?_
            rintro e w11 ⟨A11, c11, rfl, ⟨hc11, hc12⟩, _, h11, _⟩
            simp only [List.length_cons, List.length_nil] at hc11 hc12 ⊢
            go_wp2_with fail
            refine (ser_step h11 (id := 50) (c := 0) (L' := setK 50 false (allT (stL 1 3))) (by decide) (by decide)).mono ?_
            rintro e w12 ⟨rfl, h12, _⟩
            go_wp2_with fail
            refine (ser_step h12 (id := 50) (c := 4) (L' := setK 50 false (allT (stL 1 3))) (by decide) (by decide)).mono ?_
            rintro e w13 ⟨rfl, h13, _⟩
            go_wp2_with (go_at_call 8; refine (rides_calls _).mono ?_; rintro e w14 ⟨rfl, hb14⟩)
            go_ret
            exact ⟨rfl, h13.below.trans (hb14.mono h13.below.size)⟩
      · clear hm0 hmw hc
        go_wp2_with fail
        refine (att_step h3 (id := 2) (c := 2) (L' := firstN true 4) (by decide) (by decide)).mono ?_
        rintro e w4 ⟨rfl, h4, _⟩
        go_wp2_with fail
        refine (wait_step h4 (l := [0, 1, 2, 3]) (by decide)).mono ?_
        rintro e w5 ⟨A5, c5, rfl, ⟨_, _⟩, _, h5, _⟩
        simp only [List.length_cons, List.length_nil] at *
        go_wp2_with fail
        refine (det_step h5 (id := 2) (c := 0) (L' := firstN true 4 |> del 2) (by decide) (by decide)).mono ?_
        rintro e w6 ⟨rfl, h6, _⟩
        go_wp2_with fail
        refine (att_step h6 (id := 50) (c := 0) (L' := stL 2 0) (by decide) (by decide)).mono ?_
        rintro e w7 ⟨rfl, h7, _⟩
        go_wp2_with fail
        refine (wait_step h7 (l := [0, 1, 3]) (by decide)).mono ?_
        rintro e w8 ⟨A, c, rfl, ⟨hc1, hc2⟩, hi, h8, _⟩
        obtain ⟨g, rfl, hg0, hg1, q0, _⟩ := hi 0 _ rfl
        obtain ⟨g', e', _, _, q1, _⟩ := hi 1 _ rfl
        cases e'
        obtain ⟨g', e', _, _, q2, _⟩ := hi 2 _ rfl
        cases e'
        have nb : g ≠ b := by have := lt_of_heap h7.lies.1; omega
        have nm : g ≠ bm := by have := h7.lies.2.lt; omega
        simp only [List.length_cons, List.length_nil] at hc1 hc2 ⊢
        clear h h1 h2 h3 h4 h5 h6 hi h7
        go_wp2_with fail
        refine (ser_step h8 (id := 50) (c := 4) (L' := stL 2 0) (by decide) (by decide)).mono ?_
        rintro e w9 ⟨rfl, h9, f9⟩
        have q0 := Fr.cell f9 q0 hg1 (fun e => e.elim nb nm)
        have q1 := Fr.cell f9 q1 hg1 (fun e => e.elim nb nm)
        have q2 := Fr.cell f9 q2 hg1 (fun e => e.elim nb nm)
        have hg := Nat.lt_of_lt_of_le hg1 f9.size
        clear f9 h8
        go_wp2
        go_loopw [10] (fun i wr => ∃ k : Nat, k ≤ 3 ∧ i = .int .i64 k ∧ St w wr b bm 3 0 (stL 2 k) ∧ wr.cell? ⟨g, 0, none⟩ = some (.int .i64 0) ∧ wr.cell? ⟨g, 1, none⟩ = some (.int .i64 1) ∧ wr.cell? ⟨g, 2, none⟩ = some (.int .i64 3) ∧ g < wr.heap.size) (fun i _ => 3 - (intOf i).toNat)
        case atStart => exact ⟨0, by omega, rfl, h9, q0, q1, q2, hg⟩
        case round =>
          obtain ⟨k, hk, rfl, h, p0, p1, p2, hg⟩ := hrel
          match k, hk with
          | 0, _ =>
            go_wp2_with (go_at_call 15; refine (ser_step h (id := 0) (c := 0) (L' := stL 2 1) (by decide) (by decide)).mono ?_; rintro e w2 ⟨rfl, h2, f2⟩)
            go_roundw
            case rel => exact ⟨1, by omega, rfl, h2, Fr.cell f2 p0 hg (fun e => e.elim nb nm), Fr.cell f2 p1 hg (fun e => e.elim nb nm), Fr.cell f2 p2 hg (fun e => e.elim nb nm), Nat.lt_of_lt_of_le hg f2.size⟩
            case measure => simp [intOf]
          | 1, _ =>
            go_wp2_with (go_at_call 15; refine (ser_step h (id := 1) (c := 0) (L' := stL 2 2) (by decide) (by decide)).mono ?_; rintro e w2 ⟨rfl, h2, f2⟩)
            go_roundw
            case rel => exact ⟨2, by omega, rfl, h2, Fr.cell f2 p0 hg (fun e => e.elim nb nm), Fr.cell f2 p1 hg (fun e => e.elim nb nm), Fr.cell f2 p2 hg (fun e => e.elim nb nm), Nat.lt_of_lt_of_le hg f2.size⟩
            case measure => simp [intOf]
          | 2, _ =>
            go_wp2_with (go_at_call 15; refine (ser_step h (id := 3) (c := 0) (L' := stL 2 3) (by decide) (by decide)).mono ?_; rintro e w2 ⟨rfl, h2, f2⟩)
            go_roundw
            case rel => exact ⟨3, by omega, rfl, h2, Fr.cell f2 p0 hg (fun e => e.elim nb nm), Fr.cell f2 p1 hg (fun e => e.elim nb nm), Fr.cell f2 p2 hg (fun e => e.elim nb nm), Nat.lt_of_lt_of_le hg f2.size⟩
            case measure => simp [intOf]
          | 3, _ =>
            go_wp2_with fail
            refine (adv_step h (i := 1) (c := 0) (a' := 1) (L' := allT (stL 2 3)) (by decide)).mono ?_
            rintro e w10 ⟨rfl, h10, _⟩
            go_wp2_with fail
            refine (wait_step h10 (l := [0, 1, 3, 50]) (by decide)).mono ?_
            rintro e w11 ⟨A11, c11, rfl, ⟨hc11, hc12⟩, _, h11, _⟩
            simp only [List.length_cons, List.length_nil] at hc11 hc12 ⊢
            go_wp2_with fail
            refine (ser_step h11 (id := 50) (c := 0) (L' := setK 50 false (allT (stL 2 3))) (by decide) (by decide)).mono ?_
            rintro e w12 ⟨rfl, h12, _⟩
            go_wp2_with fail
            refine (ser_step h12 (id := 50) (c := 4) (L' := setK 50 false (allT (stL 2 3))) (by decide) (by decide)).mono ?_
            rintro e w13 ⟨rfl, h13, _⟩
            go_wp2_with (go_at_call 8; refine (rides_calls _).mono ?_; rintro e w14 ⟨rfl, hb14⟩)
            go_ret
            exact ⟨rfl, h13.below.trans (hb14.mono h13.below.size)⟩
      · clear hm0 hmw hc
        go_wp2_with fail
        refine (att_step h3 (id := 3) (c := 2) (L' := firstN true 4) (by decide) (by decide)).mono ?_
        rintro e w4 ⟨rfl, h4, _⟩
        go_wp2_with fail
        refine (wait_step h4 (l := [0, 1, 2, 3]) (by decide)).mono ?_
        rintro e w5 ⟨A5, c5, rfl, ⟨_, _⟩, _, h5, _⟩
        simp only [List.length_cons, List.length_nil] at *
        go_wp2_with fail
        refine (det_step h5 (id := 3) (c := 0) (L' := firstN true 4 |> del 3) (by decide) (by decide)).mono ?_
        rintro e w6 ⟨rfl, h6, _⟩
        go_wp2_with fail
        refine (att_step h6 (id := 50) (c := 0) (L' := stL 3 0) (by decide) (by decide)).mono ?_
        rintro e w7 ⟨rfl, h7, _⟩
        go_wp2_with fail
        refine (wait_step h7 (l := [0, 1, 2]) (by decide)).mono ?_
        rintro e w8 ⟨A, c, rfl, ⟨hc1, hc2⟩, hi, h8, _⟩
        obtain ⟨g, rfl, hg0, hg1, q0, _⟩ := hi 0 _ rfl
        obtain ⟨g', e', _, _, q1, _⟩ := hi 1 _ rfl
        cases e'
        obtain ⟨g', e', _, _, q2, _⟩ := hi 2 _ rfl
        cases e'
        have nb : g ≠ b := by have := lt_of_heap h7.lies.1; omega
        have nm : g ≠ bm := by have := h7.lies.2.lt; omega
        simp only [List.length_cons, List.length_nil] at hc1 hc2 ⊢
        clear h h1 h2 h3 h4 h5 h6 hi h7
        go_wp2_with fail
        refine (ser_step h8 (id := 50) (c := 4) (L' := stL 3 0) (by decide) (by decide)).mono ?_
        rintro e w9 ⟨rfl, h9, f9⟩
        have q0 := Fr.cell f9 q0 hg1 (fun e => e.elim nb nm)
        have q1 := Fr.cell f9 q1 hg1 (fun e => e.elim nb nm)
        have q2 := Fr.cell f9 q2 hg1 (fun e => e.elim nb nm)
        have hg := Nat.lt_of_lt_of_le hg1 f9.size
        clear f9 h8
        go_wp2
        go_loopw [10] (fun i wr => ∃ k : Nat, k ≤ 3 ∧ i = .int .i64 k ∧ St w wr b bm 3 0 (stL 3 k) ∧ wr.cell? ⟨g, 0, none⟩ = some (.int .i64 0) ∧ wr.cell? ⟨g, 1, none⟩ = some (.int .i64 1) ∧ wr.cell? ⟨g, 2, none⟩ = some (.int .i64 2) ∧ g < wr.heap.size) (fun i _ => 3 - (intOf i).toNat)
        case atStart => exact ⟨0, by omega, rfl, h9, q0, q1, q2, hg⟩
        case round =>
          obtain ⟨k, hk, rfl, h, p0, p1, p2, hg⟩ := hrel
          match k, hk with
          | 0, _ =>
            go_wp2_with (go_at_call 15; refine (ser_step h (id := 0) (c := 0) (L' := stL 3 1) (by decide) (by decide)).mono ?_; rintro e w2 ⟨rfl, h2, f2⟩)
            go_roundw
            case rel => exact ⟨1, by omega, rfl, h2, Fr.cell f2 p0 hg (fun e => e.elim nb nm), Fr.cell f2 p1 hg (fun e => e.elim nb nm), Fr.cell f2 p2 hg (fun e => e.elim nb nm), Nat.lt_of_lt_of_le hg f2.size⟩
            case measure => simp [intOf]
          | 1, _ =>
            go_wp2_with (go_at_call 15; refine (ser_step h (id := 1) (c := 0) (L' := stL 3 2) (by decide) (by decide)).mono ?_; rintro e w2 ⟨rfl, h2, f2⟩)
            go_roundw
            case rel => exact ⟨2, by omega, rfl, h2, Fr.cell f2 p0 hg (fun e => e.elim nb nm), Fr.cell f2 p1 hg (fun e => e.elim nb nm), Fr.cell f2 p2 hg (fun e => e.elim nb nm), Nat.lt_of_lt_of_le hg f2.size⟩
            case measure => simp [intOf]
          | 2, _ =>
            go_wp2_with (go_at_call 15; refine (ser_step h (id := 2) (c := 0) (L' := stL 3 3) (by decide) (by decide)).mono ?_; rintro e w2 ⟨rfl, h2, f2⟩)
            go_roundw
            case rel => exact ⟨3, by omega, rfl, h2, Fr.cell f2 p0 hg (fun e => e.elim nb nm), Fr.cell f2 p1 hg (fun e => e.elim nb nm), Fr.cell f2 p2 hg (fun e => e.elim nb nm), Nat.lt_of_lt_of_le hg f2.size⟩
            case measure => simp [intOf]
          | 3, _ =>
            go_wp2_with fail
            refine (adv_step h (i := 1) (c := 0) (a' := 1) (L' := allT (stL 3 3)) (by decide)).mono ?_
            rintro e w10 ⟨rfl, h10, _⟩
            go_wp2_with fail
            refine (wait_step h10 (l := [0, 1, 2, 50]) (by decide)).mono ?_
            rintro e w11 ⟨A11, c11, rfl, ⟨hc11, hc12⟩, _, h11, _⟩
            simp only [List.length_cons, List.length_nil] at hc11 hc12 ⊢
            go_wp2_with fail
            refine (ser_step h11 (id := 50) (c := 0) (L' := setK 50 false (allT (stL 3 3))) (by decide) (by decide)).mono ?_
            rintro e w12 ⟨rfl, h12, _⟩
            go_wp2_with fail
            refine (ser_step h12 (id := 50) (c := 4) (L' := setK 50 false (allT (stL 3 3))) (by decide) (by decide)).mono ?_
            rintro e w13 ⟨rfl, h13, _⟩
            go_wp2_with (go_at_call 8; refine (rides_calls _).mono ?_; rintro e w14 ⟨rfl, hb14⟩)
            go_ret
            exact ⟨rfl, h13.below.trans (hb14.mono h13.below.size)⟩
theorem full_wf (x : Int) (w : World) (h : (Lit.int .u8 x).wf = true) : Calls Try.prog 6 #[.int .u8 x] w fun e w' => e = .returned (.bool true) ∧ Below w.heap.size w w' := by
  simp only [Lit.wf, IntKind.min, IntKind.max, IntKind.signed, IntKind.bits] at h
  simp at h
  exact full_at x _ (by omega) (by omega) rfl w
end Go.Proofs.Ytfmicncpaaioaaa.Sc
