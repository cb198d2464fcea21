/- The document's Normal and Reverse, and the program's Reverse, walked. Conditions: the list lies readable. -/
import Derived.Test.YtpmgkmodpneiiaaPut
namespace Go.Proofs.Ytpmgkmodpneiiaa.E
open Go.RowKit Go.Sort Go.Shelf
open Go.Proofs.Ytpmgkmodpneiiaa.Ma
set_option linter.unusedVariables false
set_option linter.unusedSimpArgs false
theorem region_tail {P : Program} {id : Nat} {Q : Exit → Act → World → Prop} {a : Act} {w : World} {l : List Oper} (n : Nat) (hm : P.follows .mixedOrders = true) (hB : Region.lexTailB .any l.toArray n = true)
    (h : ∀ wd : World, wd = w.drew → wpStill P l.toArray wd (fun a' => wpList P l.toArray Q (l.drop n) a' wd) (l.take n) a) : (Code.region id l.toArray true).wp P Q a w :=
  wp_region_still_tail n hm hB (h w.drew rfl)
theorem nrm_take {L : List Ed} {k : Nat} {x : Ed} (h : L[k]? = some x) : nrm (L.take (k + 1)) = putF (nrm (L.take k)) x true := by
  rw [take_snoc h, nrm_snoc]
theorem rvs_take {L : List Ed} {k : Nat} {x1 x2 : Int} (h : L[k]? = some (x1, x2)) : rvs (L.take (k + 1)) = putF (rvs (L.take k)) (x2, x1) false := by
  rw [take_snoc h, rvs_snoc]
  rfl
theorem bad_norm {n : Int} {L : List Ed} {k : Nat} {x : Ed} (h : L[k]? = some x) (hb : badE n x = true) : normC n L = (2, []) := by
  unfold normC badN
  rw [if_pos]
  rw [Bool.or_eq_true, List.any_eq_true]
  exact .inr ⟨x, List.mem_of_getElem? h, hb⟩
theorem may_norm {n : Int} {L : List Ed} (h : ¬ (1 ≤ n ∧ n ≤ 256)) : normC n L = (2, []) := by
  unfold normC badN mayR
  rw [if_pos]
  rw [decide_eq_false h]
  rfl
theorem ok_norm {n : Int} {L : List Ed} (h : 1 ≤ n ∧ n ≤ 256) (hb : ∀ x ∈ L, badE n x = false) : normC n L = if 4096 < (nrm L).length then (3, []) else (0, nrm L) := by
  unfold normC badN mayR
  rw [if_neg]
  rw [decide_eq_true h]
  have : L.any (badE n) = false := by
    rw [List.any_eq_false]
    intro x hx
    rw [hb x hx]
    simp
  rw [this]
  simp
theorem below_row {V V' : World} {B : Nat} {v : Value} {K : List Ed} (h : V.ownsRow B 27 2 v K.length (cellsK enc2 K)) (hb : Below V.heap.size V V') : V'.ownsRow B 27 2 v K.length (cellsK enc2 K) := (Fr.of_below hb).row h (fun _ _ e => e)
set_option maxRecDepth 100000 in
set_option maxHeartbeats 4000000 in
theorem refnorm_at (A : Option Addr) (c : Nat) (n : Int) (L : List Ed) (w : World) (hL : Lies enc2 2 w A L) (hlen : L.length ≤ 500000) :
    Calls Try.prog 18 #[.int .i64 n, .slice A L.length c] w fun e w' => ∃ v', e = .returned (.tuple #[v', .int .i64 (normC n L).1]) ∧ w'.ownsRow w.heap.size 27 2 v' (normC n L).2.length (cellsK enc2 (normC n L).2) ∧ Below w.heap.size w w' := by
  have HL := Lib.hid hL
  have HLen := Lib.hid hlen
  clear hL
  by_cases h1 : n < 1
  · rw [may_norm (by omega)]
    go_enter Try.func18, Try.ntmps18
    go_wp2
    exact bodyPost_ret (v := .tuple #[.slice none 0 0, .int .i64 2]) (by simp [results, Try.results18, go_sem]) rfl ⟨_, rfl, World.ownsRow_nil _ _ _ _, Below.refl _ _⟩
  by_cases h2 : 256 < n
  · rw [may_norm (by omega)]
    go_enter Try.func18, Try.ntmps18
    go_wp2
    exact bodyPost_ret (v := .tuple #[.slice none 0 0, .int .i64 2]) (by simp [results, Try.results18, go_sem]) rfl ⟨_, rfl, World.ownsRow_nil _ _ _ _, Below.refl _ _⟩
  have HN := Lib.hid (show 1 ≤ n ∧ n ≤ 256 by omega)
  obtain ⟨RC, hRC⟩ : ∃ r, normC n L = r := ⟨_, rfl⟩
  rw [hRC]
  have HRC := Lib.hid hRC
  clear hRC
  go_enter Try.func18, Try.ntmps18
  go_wp2
  clear h1 h2
  go_loopw [6, 7] (fun s i wr => ∃ (k : Nat) (A' : Option Addr) (c' : Nat) (K : List Ed), k ≤ L.length ∧ i = .int .i64 k ∧ s = .slice A' K.length c' ∧ K = nrm (L.take k) ∧ (∀ x ∈ L.take k, badE n x = false) ∧ wr.ownsRow w.heap.size 27 2 (.slice A' K.length c') K.length (cellsK enc2 K) ∧ Below w.heap.size w wr) (fun _ i _ => L.length - (intOf i).toNat)
  case atStart => exact ⟨0, none, 0, [], by omega, rfl, rfl, rfl, by simp, World.ownsRow_nil _ _ _ _, Below.refl _ _⟩
  case round =>
    obtain ⟨k, A', c', K, hk, rfl, rfl, hK, hok, hr, hb⟩ := hrel
    have HK := Lib.hid hK
    have HOk := Lib.hid hok
    have HR := Lib.hid hr
    have HB := Lib.hid hb
    clear hK hok hr hb
    by_cases hlt : k < L.length
    · obtain ⟨⟨x1, x2⟩, hx⟩ : ∃ p, L[k]? = some p := ⟨L[k], List.getElem?_eq_getElem _⟩
      obtain ⟨g, o, rfl, hg, q0, q1⟩ := lies2 (HL.out.below HB.out (Nat.le_refl _)) hx
      have i1 : (k : Int) < (L.length : Int) := by omega
      obtain ⟨W, hW, gW, hbl, hsz, _⟩ := boxed2 wr x1 x2 27
      have HX := Lib.hid hx
      have s0 := cell_of_heap (i := 0) gW rfl
      have s1 := cell_of_heap (i := 1) gW rfl
      have HBW := Lib.hid (HB.out.trans (hbl.mono HB.out.size))
      have HRW := Lib.hid (below_row HR.out hbl)
      have hk5 : K.length ≤ 500000 := by have := nrm_len (L.take k); rw [HK.out]; rw [List.length_take] at this; omega
      have HK5 := Lib.hid hk5
      have hbad : badE n (x1, x2) = true ↔ (x1 < 0 ∨ n ≤ x1 ∨ x2 < 0 ∨ n ≤ x2 ∨ x1 = x2) := by
        unfold badE inR
        simp
        omega
      have HBad := Lib.hid hbad
      have HPut := Lib.hid (nrm_take hx)
      clear hx hg gW hbl hsz hk5 hbad
      by_cases h1 : x1 < 0
      · go_wp2
        exact bodyPost_ret (v := .tuple #[.slice none 0 0, .int .i64 2]) (by simp [results, Try.results18, go_sem]) rfl (by rw [← HRC.out, bad_norm HX.out (HBad.out.2 (by omega))]; exact ⟨_, rfl, World.ownsRow_nil _ _ _ _, HBW.out⟩)
      by_cases h2 : n ≤ x1
      · go_wp2
        exact bodyPost_ret (v := .tuple #[.slice none 0 0, .int .i64 2]) (by simp [results, Try.results18, go_sem]) rfl (by rw [← HRC.out, bad_norm HX.out (HBad.out.2 (by omega))]; exact ⟨_, rfl, World.ownsRow_nil _ _ _ _, HBW.out⟩)
      by_cases h3 : x2 < 0
      · go_wp2
        exact bodyPost_ret (v := .tuple #[.slice none 0 0, .int .i64 2]) (by simp [results, Try.results18, go_sem]) rfl (by rw [← HRC.out, bad_norm HX.out (HBad.out.2 (by omega))]; exact ⟨_, rfl, World.ownsRow_nil _ _ _ _, HBW.out⟩)
      by_cases h4 : n ≤ x2
      · go_wp2
        exact bodyPost_ret (v := .tuple #[.slice none 0 0, .int .i64 2]) (by simp [results, Try.results18, go_sem]) rfl (by rw [← HRC.out, bad_norm HX.out (HBad.out.2 (by omega))]; exact ⟨_, rfl, World.ownsRow_nil _ _ _ _, HBW.out⟩)
      by_cases h5 : x1 = x2
      · have HE := Lib.hid h5
        have e5 : (x1 == x2) = true := by simpa using h5
        clear h5
        go_wp2
        exact bodyPost_ret (v := .tuple #[.slice none 0 0, .int .i64 2]) (by simp [results, Try.results18, go_sem]) rfl (by rw [← HRC.out, bad_norm HX.out (HBad.out.2 (by have := HE.out; omega))]; exact ⟨_, rfl, World.ownsRow_nil _ _ _ _, HBW.out⟩)
      · have e5 : (x1 == x2) = false := by simpa using h5
        have HG := Lib.hid (show badE n (x1, x2) = false by
          cases e : badE n (x1, x2)
          · rfl
          · exact absurd (HBad.out.1 e) (by omega))
        clear h5
        go_wp2_with (go_at_call 27; refine (put_at w.heap.size _ K x1 x2 true W HRW.out HBW.out.size HK5.out).mono ?_; rintro e w2 ⟨A2, c2, rfl, hr2, hb2⟩; have HR2 := Lib.hid hr2; have HB2 := Lib.hid (HBW.out.trans (hb2.mono HBW.out.size)); clear hr2 hb2)
        go_roundw
        case rel =>
          refine ⟨k + 1, _, _, putF K (x1, x2) true, by omega, by go_num, rfl, by rw [HPut.out, HK.out], ?_, HR2.out, HB2.out⟩
          intro x hx
          rw [take_snoc HX.out, List.mem_append, List.mem_singleton] at hx
          rcases hx with hx | rfl
          · exact HOk.out x hx
          · exact HG.out
        case measure => simp [intOf]; omega
    · obtain rfl : k = L.length := by omega
      rw [List.take_length] at HK HOk
      by_cases hl : 4096 < K.length
      · have h2 : (4096 : Int) < (K.length : Int) := by omega
        have HH := Lib.hid hl
        clear hl
        go_wp2
        exact bodyPost_ret (v := .tuple #[.slice none 0 0, .int .i64 3]) (by simp [results, Try.results18, go_sem]) rfl (by rw [← HRC.out, ok_norm HN.out HOk.out, if_pos (HK.out ▸ HH.out)]; exact ⟨_, rfl, World.ownsRow_nil _ _ _ _, HB.out⟩)
      · have h2 : ¬ (4096 : Int) < (K.length : Int) := by omega
        have HH := Lib.hid hl
        clear hl
        go_wp2
        exact bodyPost_ret (v := .tuple #[.slice A' K.length c', .int .i64 0]) (by simp [results, Try.results18, go_sem]) rfl (by rw [← HRC.out, ok_norm HN.out HOk.out, if_neg (HK.out ▸ HH.out)]; exact ⟨_, rfl, HK.out ▸ HR.out, HB.out⟩)
end Go.Proofs.Ytpmgkmodpneiiaa.E
