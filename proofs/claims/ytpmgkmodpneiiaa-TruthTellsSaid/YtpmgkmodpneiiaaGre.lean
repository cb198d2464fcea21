/- greatest; slices.Equal at edges. Conditions: those that each theorem names. -/
import Derived.Test.YtpmgkmodpneiiaaFil
namespace Go.Proofs.Ytpmgkmodpneiiaa.E
open Go.RowKit Go.Sort Go.Shelf
open Go.Proofs.Ytpmgkmodpneiiaa.Ma
set_option linter.unusedVariables false
set_option linter.unusedSimpArgs false
def farN : Nat := 18446744073709551615
def ints (L : List Nat) : List Int := L.map fun x : Nat => (x : Int)
/-- The greatest distance that there is. -/
def grt (L : List Nat) : Nat := L.foldl (fun m x => if x = farN then m else Nat.max m x) 0
theorem grt_take {L : List Nat} {k x : Nat} (h : L[k]? = some x) : grt (L.take (k + 1)) = if x = farN then grt (L.take k) else Nat.max (grt (L.take k)) x := by
  unfold grt
  rw [List.take_add_one, h, List.foldl_append]
  rfl
theorem grt_le {b : Nat} : ∀ {L : List Nat}, (∀ x ∈ L, x = farN ∨ x ≤ b) → grt L ≤ b := by
  intro L h
  have : ∀ (L : List Nat) (m : Nat), m ≤ b → (∀ x ∈ L, x = farN ∨ x ≤ b) → L.foldl (fun m x => if x = farN then m else Nat.max m x) m ≤ b := by
    intro L
    induction L with
    | nil => intro m hm _; exact hm
    | cons y r ih =>
      intro m hm hx
      rw [List.foldl_cons]
      refine ih _ ?_ (fun x hx' => hx x (List.mem_cons_of_mem _ hx'))
      split
      · exact hm
      · rcases hx y List.mem_cons_self with e | e
        · contradiction
        · exact Nat.max_le.2 ⟨hm, e⟩
  exact this L 0 (Nat.zero_le _) h
set_option maxRecDepth 100000 in
set_option maxHeartbeats 1000000 in
theorem greatest_at (A : Option Addr) (c : Nat) (L : List Nat) (w : World) (h : Lies encU 1 w A (ints L)) (hl : L.length ≤ 100000) (hx : ∀ x ∈ L, x = farN ∨ x ≤ 100000) :
    Calls Try.prog 32 #[.slice A L.length c] w fun e w' => e = .returned (.int .i64 (grt L : Nat)) ∧ w = w' := by
  have H := Lib.hid h
  have HX := Lib.hid hx
  have HB := Lib.hid (fun k => grt_le (L := L.take k) (b := 100000) (fun x h => hx x (List.mem_of_mem_take h)))
  clear h hx
  go_enter Try.func32, Try.ntmps32
  go_wp2
  go_loop [3, 8] (fun q i => ∃ k m : Nat, k ≤ L.length ∧ i = .int .i64 k ∧ q = .int .u64 m ∧ m = grt (L.take k)) (fun _ i => L.length - (intOf i).toNat)
  case atStart => exact ⟨0, 0, by omega, rfl, rfl, rfl⟩
  case round =>
    obtain ⟨k, m, hk, rfl, rfl, hm⟩ := hrel
    have hb := HB.out k
    rw [← hm] at hb
    by_cases hlt : k < L.length
    · obtain ⟨x, hx⟩ : ∃ x, L[k]? = some x := ⟨_, List.getElem?_eq_getElem hlt⟩
      obtain ⟨g, o, e, _, q0⟩ := liesU H.out (j := k) (x := (x : Int)) (by unfold ints; rw [List.getElem?_map, hx]; rfl)
      subst e
      have HS := Lib.hid (grt_take hx)
      have hxx := HX.out x (List.mem_of_getElem? hx)
      have HMM := Lib.hid hm
      have i1 : (k : Int) < (L.length : Int) := by omega
      have i2 : (k : Int) < 100000 := by omega
      by_cases hf : x = farN
      · have HN := Lib.hid (show m = grt (L.take (k + 1)) by rw [HS.out, if_pos hf]; exact hm)
        have e1 : (x : Int) = 18446744073709551615 := by rw [hf]; rfl
        rw [e1] at q0
        clear hx hm hf hxx e1
        go_wp2
        go_round
        case rel => exact ⟨k + 1, m, by omega, by go_num, rfl, HN.out⟩
        case measure => simp [intOf]; omega
      · have HN := Lib.hid (show Nat.max m x = grt (L.take (k + 1)) by rw [HS.out, if_neg hf, ← hm])
        have e1 : ((x : Int) != 18446744073709551615) = true := by
          have hx2 : x ≤ 100000 := hxx.resolve_left hf
          simp; omega
        clear hx hm hf
        go_wp2
        go_round
        case rel => exact ⟨k + 1, Nat.max m x, by omega, by go_num, by rw [show ((Nat.max m x : Nat) : Int) = max (m : Int) (x : Int) from by simp only [Nat.max_def, Int.max_def]; split <;> split <;> omega], HN.out⟩
        case measure => simp [intOf]; omega
    · obtain rfl : k = L.length := by omega
      rw [List.take_length] at hm
      subst hm
      have v3 : IntKind.i64.wrap ((grt L : Nat) : Int) = ((grt L : Nat) : Int) := IntWalk.i64_in _ ⟨by omega, by omega⟩
      go_wp2
      go_ret
      exact ⟨rfl, rfl⟩
theorem below_drewNg (w : World) (n : Nat) : Below w.heap.size w (w.drewN n) := ⟨rfl, rfl, rfl, Nat.le_refl _, fun _ _ => rfl⟩
theorem drop_two {w : World} {A : Option Addr} {L : List Ed} (h : Lies enc2 2 w A L) {j : Nat} {x : Ed} (hx : L[j]? = some x) : ∃ g o, A = some ⟨g, o, none⟩ ∧ g < w.heap.size ∧ w.cell? ⟨g, o + j * 2, none⟩ = some (.int .i64 x.1) ∧ w.cell? ⟨g, o + j * 2 + 1, none⟩ = some (.int .i64 x.2) := by
  obtain ⟨g, o, e, hg, hc⟩ := h j x hx
  exact ⟨g, o, e, hg, hc 0 _ rfl, hc 1 _ rfl⟩
set_option maxRecDepth 100000 in
set_option maxHeartbeats 1000000 in
/-- slices.Equal at edges. -/
theorem equal_at (A B : Option Addr) (c d : Nat) (L M : List Ed) (w : World) (hL : Lies enc2 2 w A L) (hM : Lies enc2 2 w B M) (hl : L.length ≤ 500000) (hm : M.length ≤ 500000) :
    Calls Try.prog 29 #[.slice A L.length c, .slice B M.length d] w fun e w' => e = .returned (.bool (decide (L = M))) ∧ Below w.heap.size w w' := by
  obtain ⟨q, hq⟩ : ∃ q, decide (L = M) = q := ⟨_, rfl⟩
  rw [hq]
  have HQ := Lib.hid hq
  have HL := Lib.hid hL
  have HM := Lib.hid hM
  clear hq hL hM
  by_cases hlen : L.length = M.length
  case neg =>
    have HF := Lib.hid (show q = false by rw [← HQ.out]; exact decide_eq_false (fun e => hlen (by rw [e])))
    have e1 : ((L.length : Int) != (M.length : Int)) = true := by simp; omega
    clear hlen
    go_enter Try.func29, Try.ntmps29
    go_wp2
    go_ret
    exact ⟨by rw [HF.out]; rfl, Below.refl _ _⟩
  have e1 : ((L.length : Int) != (M.length : Int)) = false := by simp [hlen]
  have HLEN := Lib.hid hlen
  clear hlen
  go_enter Try.func29, Try.ntmps29
  go_wp2
  go_loopw [13] (fun i wi => ∃ k : Nat, k ≤ L.length ∧ i = .int .i64 k ∧ Below w.heap.size w wi ∧ L.take k = M.take k) (fun i _ => L.length - (intOf i).toNat)
  case atStart => exact ⟨0, by omega, rfl, Below.refl _ _, rfl⟩
  case round =>
    obtain ⟨k, hk, rfl, hb, ht⟩ := hrel
    have HB := Lib.hid hb
    have HT := Lib.hid ht
    by_cases hlt : k < L.length
    · obtain ⟨⟨x1, x2⟩, hx⟩ : ∃ x, L[k]? = some x := ⟨_, List.getElem?_eq_getElem hlt⟩
      obtain ⟨⟨y1, y2⟩, hy⟩ : ∃ x, M[k]? = some x := ⟨_, List.getElem?_eq_getElem (by rw [← HLEN.out]; exact hlt)⟩
      obtain ⟨g, o, e, _, q0, q1⟩ := drop_two (HL.out.below hb (Nat.le_refl _)) hx
      obtain ⟨g', o', e', _, r0, r1⟩ := drop_two (HM.out.below hb (Nat.le_refl _)) hy
      subst e e'
      have i1 : (k : Int) < (L.length : Int) := by omega
      have i2 : (k : Int) < (M.length : Int) := by have := HLEN.out; omega
      have i3 : (k : Int) < 500000 := by omega
      have hne := neq24 x1 x2 y1 y2
      by_cases hxy : x1 = y1 ∧ x2 = y2
      · have HS := Lib.hid (show L.take (k + 1) = M.take (k + 1) by rw [List.take_add_one, List.take_add_one, hx, hy, ht, hxy.1, hxy.2])
        rw [show decide (x1 = y1 ∧ x2 = y2) = true from decide_eq_true hxy] at hne
        clear hx hy hxy hb ht
        go_wp2
        go_quiet (fail)
        go_wp2
        go_roundw
        case rel => exact ⟨k + 1, by omega, by go_num, HB.out.trans ((below_drewNg wr _).mono HB.out.size), HS.out⟩
        case measure => simp [intOf]; omega
      · have HF := Lib.hid (show q = false by
          rw [← HQ.out]
          refine decide_eq_false (fun e => hxy ?_)
          rw [e, hy] at hx
          cases hx
          exact ⟨rfl, rfl⟩)
        rw [show decide (x1 = y1 ∧ x2 = y2) = false from decide_eq_false hxy] at hne
        clear hx hy hxy hb ht
        go_wp2
        go_quiet (fail)
        go_wp2
        go_ret
        exact ⟨by rw [HF.out]; rfl, HB.out.trans ((below_drewNg wr _).mono HB.out.size)⟩
    · obtain rfl : k = L.length := by omega
      have HF := Lib.hid (show q = true by
        rw [← HQ.out]
        refine decide_eq_true ?_
        rw [List.take_length, HLEN.out, List.take_length] at ht
        exact ht)
      clear hb ht
      go_wp2
      go_ret
      exact ⟨by rw [HF.out]; rfl, HB.out⟩
end Go.Proofs.Ytpmgkmodpneiiaa.E
