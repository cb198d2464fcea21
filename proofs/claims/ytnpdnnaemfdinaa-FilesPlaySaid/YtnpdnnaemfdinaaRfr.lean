/- The document's rows, Pages, Used, Names, Name. Conditions: those that each theorem names. -/
import Derived.Test.YtnpdnnaemfdinaaRfm
namespace Go.Proofs.Ytnpdnnaemfdinaa.F
open Go.RowKit Go.Maps Go.Sort Go.Shelf
open Go.Proofs.Ytnpdnnaemfdinaa.Ma
set_option linter.unusedVariables false
set_option linter.unusedSimpArgs false
section
variable {X : Nat → Prop} {w : World} {r : Nat} {room left : Int} {D : List De}
theorem look_not {s : ByteArray} {z : Rn} {L : List Rn} (h : z.name ≠ s) : lookD (dr (z :: L)) s = lookD (dr L) s := by
  unfold lookD dr
  rw [List.map_cons, List.find?_cons_of_neg]
  simp only [beq_iff_eq]
  exact fun e => h (nm_inj e)
theorem look_yes {s : ByteArray} {z : Rn} {L : List Rn} (h : z.name = s) : lookD (dr (z :: L)) s = z.ps := by
  unfold lookD dr
  rw [List.map_cons, List.find?_cons_of_pos (by simp [h])]
set_option maxRecDepth 100000 in
theorem rows_at (s : ByteArray) (h : RfX X w r room left D) (hn : D.length ≤ 4096) :
    Calls Try.prog 54 #[.pointer (some ⟨r, 0, none⟩), .string s] w fun e w' => ∃ A c, e = .returned (.slice A (lookD D s).length c) ∧ Lies encS 1 w A (lookD D s) ∧ In X r A ∧ w = w' := by
  obtain ⟨L, A, c, rfl, h1, h2, h3, h4⟩ := h.ex
  have c2 := cell_of_heap (i := 2) h1 rfl
  have H2 := Lib.hid h2
  have H4 := Lib.hid h4
  have hL : L.length ≤ 4096 := by simpa [dr] using hn
  have HL := Lib.hid hL
  clear h h1 h2 h3 h4 hn hL
  go_enter Try.func54, Try.ntmps54
  go_wp2
  go_loop [5] (fun i => ∃ k : Nat, k ≤ L.length ∧ i = .int .i64 k ∧ lookD (dr (L.drop k)) s = lookD (dr L) s) (fun i => L.length - (intOf i).toNat)
  case atStart => exact ⟨0, by omega, rfl, rfl⟩
  case round =>
    obtain ⟨k, hk, rfl, he⟩ := hrel
    have HE := Lib.hid he
    have hL := HL.out
    by_cases hlt : k < L.length
    · obtain ⟨z, hz⟩ : ∃ z, L[k]? = some z := ⟨_, List.getElem?_eq_getElem hlt⟩
      obtain ⟨g, o, e, _, q0, q1⟩ := lies_r H2.out hz
      subst e
      have hd : L.drop k = z :: L.drop (k + 1) := by
        rw [List.drop_eq_getElem_cons hlt]
        congr 1
        exact Option.some.inj ((List.getElem?_eq_getElem hlt).symm.trans hz)
      have HD := Lib.hid hd
      have HZ := Lib.hid (H4.out z (List.mem_of_getElem? hz))
      have i1 : (k : Int) < (L.length : Int) := by omega
      have i2 : (k : Int) < 4096 := by omega
      obtain ⟨nmz, hnz⟩ : ∃ n, z.name = n := ⟨_, rfl⟩
      rw [hnz] at q0
      by_cases hs : nmz = s
      · have e3 : (nmz.toList == s.toList) = true := by rw [hs]; exact beq_self_eq_true _
        have HY := Lib.hid (show lookD (dr L) s = z.ps by rw [← he, hd, look_yes (hnz.trans hs)])
        clear he hz hd hnz hs
        go_wp2
        go_ret
        refine ⟨z.adr, ⟨z.cap, ?_⟩, ?_, HZ.out.2, rfl⟩
        · rw [HY.out]; rfl
        · rw [HY.out]; exact HZ.out.1
      · have e3 : (nmz.toList == s.toList) = false := by
          rw [ByteArray.toList_eq, ByteArray.toList_eq, beq_eq_false_iff_ne]
          exact fun e => hs (nm_inj e)
        have HY := Lib.hid (show lookD (dr (L.drop (k + 1))) s = lookD (dr L) s by rw [← he, hd, look_not (by rw [hnz]; exact hs)])
        clear he hz hd hnz hs
        go_wp2
        go_round
        case rel => exact ⟨k + 1, by omega, by go_num, HY.out⟩
        case measure => simp [intOf]; omega
    · obtain rfl : k = L.length := by omega
      have e0 : lookD (dr L) s = [] := by rw [← he, List.drop_length]; rfl
      clear he
      go_wp2
      go_ret
      refine ⟨none, ⟨0, ?_⟩, ?_, ?_, rfl⟩
      · rfl
      · exact fun j x hx => nomatch hx
      · exact fun g o e => nomatch e
theorem rpages_at (s : ByteArray) (h : RfX X w r room left D) (hn : D.length ≤ 4096) :
    Calls Try.prog 27 #[.pointer (some ⟨r, 0, none⟩), .string s] w fun e w' => e = .returned (.int .i64 (lookD D s).length) ∧ w = w' := by
  have HR := Lib.hid (rows_at s h hn)
  clear h hn
  go_enter Try.func27, Try.ntmps27
  go_wp2_with (go_at_call 54; refine HR.out.mono ?_; rintro e w' ⟨A, c, rfl, _, _, rfl⟩)
  go_ret
  exact ⟨rfl, rfl⟩
set_option maxRecDepth 100000 in
theorem rused_at (h : RfX X w r room left D) (hn : D.length ≤ 4096) (hp : pagesD D ≤ 4096) :
    Calls Try.prog 28 #[.pointer (some ⟨r, 0, none⟩)] w fun e w' => e = .returned (.int .i64 (pagesD D)) ∧ w = w' := by
  obtain ⟨L, A, c, rfl, h1, h2, h3, h4⟩ := h.ex
  have c2 := cell_of_heap (i := 2) h1 rfl
  have H2 := Lib.hid h2
  have hL : L.length ≤ 4096 := by simpa [dr] using hn
  have HL := Lib.hid hL
  have HP := Lib.hid hp
  clear h h1 h2 h3 h4 hn hL hp
  go_enter Try.func28, Try.ntmps28
  go_wp2
  go_loop [3, 4] (fun q i => ∃ k u : Nat, k ≤ L.length ∧ i = .int .i64 k ∧ q = .int .i64 u ∧ u = pagesD ((dr L).take k)) (fun _ i => L.length - (intOf i).toNat)
  case atStart => exact ⟨0, 0, by omega, rfl, rfl, rfl⟩
  case round =>
    obtain ⟨k, u, hk, rfl, rfl, he⟩ := hrel
    have hL := HL.out
    have hu : u ≤ 4096 := by rw [he]; exact Nat.le_trans (pagesD_le _ _) HP.out
    by_cases hlt : k < L.length
    · obtain ⟨z, hz⟩ : ∃ z, L[k]? = some z := ⟨_, List.getElem?_eq_getElem hlt⟩
      obtain ⟨g, o, e, _, q0, q1⟩ := lies_r H2.out hz
      subst e
      have HS := Lib.hid (show u + z.ps.length = pagesD ((dr L).take (k + 1)) by
        rw [pagesD_take (p := (z.name, z.ps)) (by unfold dr; rw [List.getElem?_map, hz]; rfl), he])
      have hz4 : u + z.ps.length ≤ 4096 := by rw [HS.out]; exact Nat.le_trans (pagesD_le _ _) HP.out
      obtain ⟨m, hm⟩ : ∃ m, z.ps.length = m := ⟨_, rfl⟩
      rw [hm] at q1 HS hz4
      have i1 : (k : Int) < (L.length : Int) := by omega
      have i2 : (k : Int) < 4096 := by omega
      have i3 : (u : Int) + (m : Int) ≤ 4096 := by omega
      clear he hz hm q0
      go_wp2
      go_round
      case rel => exact ⟨k + 1, u + m, by omega, by go_num, by go_num, HS.out⟩
      case measure => simp [intOf]; omega
    · obtain rfl : k = L.length := by omega
      have e0 : u = pagesD (dr L) := by rw [he, List.take_of_length_le]; simp [dr]
      clear he
      subst e0
      go_wp2
      go_ret
      exact ⟨rfl, rfl⟩
set_option maxRecDepth 100000 in
theorem rnames_at {N : List ByteArray} (hN : D.map (·.1) = N) (h : RfX X w r room left D) (hn : D.length ≤ 4096) :
    Calls Try.prog 25 #[.pointer (some ⟨r, 0, none⟩)] w fun e w' => ∃ A c, e = .returned (.slice A N.length c) ∧ Told w w' w' A N ∧ Below w.heap.size w w' := by
  subst hN
  have H0 := Lib.hid h
  obtain ⟨L, A, c, rfl, h1, h2, h3, h4⟩ := h.ex
  have hL : L.length ≤ 4096 := by simpa [dr] using hn
  have HL := Lib.hid hL
  have H1 := Lib.hid h1
  have H2 := Lib.hid h2
  clear h h1 h2 h3 h4 hn hL
  go_enter Try.func25, Try.ntmps25
  go_wp2
  go_loopw [3, 4] (fun q i wi => ∃ (k : Nat) (O : List ByteArray) (A' : Option Addr) (c' : Nat), k ≤ L.length ∧ i = .int .i64 k ∧ q = .slice A' O.length c' ∧ O = ((dr L).map (·.1)).take k ∧ wi.ownsRow w.heap.size 9 1 (.slice A' O.length c') O.length (O.map Value.string) ∧ Below w.heap.size w wi) (fun _ i _ => L.length - (intOf i).toNat)
  case atStart => exact ⟨0, [], none, 0, by omega, rfl, rfl, rfl, World.ownsRow_nil _ _ _ _, Below.refl _ _⟩
  case round =>
    obtain ⟨k, O, A', c', hk, rfl, rfl, hO, hrow, hb⟩ := hrel
    have hL := HL.out
    have HB := Lib.hid hb
    have HO := Lib.hid hO
    have HROW := Lib.hid hrow
    have c2 := cell_of_heap (i := 2) ((hb.block r (lt_of_heap H1.out)).trans H1.out) rfl
    by_cases hlt : k < L.length
    · obtain ⟨z, hz⟩ : ∃ z, L[k]? = some z := ⟨_, List.getElem?_eq_getElem hlt⟩
      obtain ⟨g, o, e, _, q0, q1⟩ := lies_r (H2.out.below hb (Nat.le_refl _)) hz
      subst e
      obtain ⟨s, hs⟩ : ∃ s, z.name = s := ⟨_, rfl⟩
      rw [hs] at q0
      obtain ⟨R, hR⟩ : ∃ R, O ++ [s] = R := ⟨_, rfl⟩
      have HS := Lib.hid (show R = ((dr L).map (·.1)).take (k + 1) by
        rw [← hR, hO, List.take_add_one]
        congr 1
        unfold dr
        rw [List.map_map, List.getElem?_map, hz, ← hs]
        rfl)
      have hOl : O.length ≤ 4096 := by rw [hO, List.length_take]; omega
      have HR := Lib.hid hR
      have hRl : R.length = O.length + 1 := by rw [← hR, List.length_append]; rfl
      have i1 : (k : Int) < (L.length : Int) := by omega
      have i2 : (k : Int) < 4096 := by omega
      have HOL := Lib.hid hOl
      have HRL := Lib.hid hRl
      clear hO hrow hz hs hR hRl hb
      go_wp2_with (at_builtin; refine wp_appS rfl _ _ rfl w.heap.size O O.length rfl s R HR.out (.slice A' O.length c') rfl ((HROW.out).alloc _) wr.heap.size rfl (heap_alloc_new wr _) (by have := HOL.out; omega) (Nat.le_trans HB.out.size (by simp)) ?_; intro A7 c7 w7 hr7 hf7 _)
      rw [← HRL.out] at hr7 ⊢
      go_roundw
      case rel => exact ⟨k + 1, R, A7, c7, by omega, by go_num, rfl, HS.out, hr7, (HB.out.alloc HB.out.size _).trans (hf7.below (Nat.le_trans HB.out.size (by simp)) (fun i e => own_base HROW.out e))⟩
      case measure => simp [intOf]; omega
    · obtain rfl : k = L.length := by omega
      have e0 : O = (dr L).map (·.1) := by rw [hO, List.take_of_length_le]; simp [dr]
      subst e0
      clear hO hb
      go_wp2
      go_ret
      exact ⟨A', ⟨c', rfl⟩, told_row (by rw [cellsS]; exact hrow), HB.out⟩
end
end Go.Proofs.Ytnpdnnaemfdinaa.F
