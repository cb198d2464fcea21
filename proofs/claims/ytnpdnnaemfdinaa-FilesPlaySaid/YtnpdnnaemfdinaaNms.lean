/- FilesNames, walked. Conditions: the argument is a text. -/
import Derived.Test.YtnpdnnaemfdinaaDoe
namespace Go.Proofs.Ytnpdnnaemfdinaa.F
open Go.RowKit Go.Maps Go.Sort Go.Shelf
open Go.Proofs.Ytnpdnnaemfdinaa.Ma
set_option linter.unusedVariables false
set_option linter.unusedSimpArgs false
def seen (c : UInt8) : Bool := decide (33 ≤ c.toNat ∧ c.toNat ≤ 126)
def okk (s : ByteArray) (k : Nat) : Bool := decide (1 ≤ s.size ∧ s.size ≤ 8) && ((nm s).take k).all seen
theorem okk_all (s : ByteArray) : okk s s.size = nameOk s := by
  unfold okk nameOk
  rw [List.take_of_length_le (by show s.data.toList.length ≤ s.data.size; simp)]
  rfl
theorem okk_step {s : ByteArray} {k : Nat} (h : k < s.size) : okk s (k + 1) = (okk s k && seen (s[k]'h)) := by
  unfold okk
  have e : (nm s)[k]? = some (s[k]'h) := by
    rw [List.getElem?_eq_getElem (by show k < s.data.toList.length; rw [Array.length_toList]; exact h)]
    rw [Array.getElem_toList]
    rfl
  rw [List.take_add_one, e, List.all_append, Bool.and_assoc]
  simp
theorem look_one (s : ByteArray) (P : List ByteArray) : lookD [(s, P)] s = P := by
  unfold lookD
  rw [List.find?_cons_of_pos (by exact beq_self_eq_true _)]
theorem del_one (s : ByteArray) (P : List ByteArray) : delD s [(s, P)] = [] := by
  unfold delD
  rw [List.filter_cons_of_neg (by simp)]
  rfl
theorem set_one (s : ByteArray) {P Q : List ByteArray} (hQ : Q ≠ []) : setD s Q [(s, P)] = [(s, Q)] := by
  unfold setD
  rw [if_neg hQ, del_one]
  rfl
theorem nms_ok {s P Q : ByteArray} (h : nameOk s = true) (hP : P.size = 128) (hQ : Q.size = 128) : putF 1 [] s 0 P = (0, [(s, [P])]) ∧ writeF 1 [(s, [P])] s [Q] = (0, [(s, [Q])]) ∧ writeF 1 [(s, [Q])] s [] = (0, []) := by
  refine ⟨?_, ?_, ?_⟩
  · unfold putF
    have : lookD [] s = [] := rfl
    rw [this, if_neg (by rintro (e | e | e | e) <;> simp_all), if_neg (by simp), if_neg (by decide)]
    rfl
  · unfold writeF
    rw [if_neg (by simp [h, hQ]), look_one, if_neg (by simp [pagesD]), set_one s (by simp)]
  · unfold writeF
    rw [if_neg (by simp [h]), look_one, if_neg (by simp [pagesD]), setD_nil, del_one]
theorem nms_bad {s P Q : ByteArray} (h : nameOk s = false) : putF 1 [] s 0 P = (2, []) ∧ writeF 1 [] s [Q] = (2, []) ∧ writeF 1 [] s [] = (2, []) := by
  refine ⟨?_, ?_, ?_⟩
  · unfold putF
    rw [if_pos (.inl h)]
  · unfold writeF
    rw [if_pos (by simp [h])]
  · unfold writeF
    rw [if_pos (by simp [h])]
set_option maxRecDepth 100000 in
set_option maxHeartbeats 4000000 in
theorem names_law (s : ByteArray) (w : World) (hs : s.size ≤ maxLen) : Calls Try.prog 4 #[.string s] w fun e w' => e = .returned (.bool true) ∧ Below w.heap.size w w' := by
  by_cases h40 : (40 : Int) < (s.size : Int)
  · clear hs
    go_enter Try.func4, Try.ntmps4
    go_wp2
    go_ret
    exact ⟨rfl, Below.refl _ _⟩
  have hse : s.toList.isEmpty = !decide (1 ≤ s.size) := by
    rw [ByteArray.toList_eq]
    by_cases h0 : s.size = 0
    · rw [empty_of h0]; rfl
    · rw [show decide (1 ≤ s.size) = true by simp; omega, Bool.not_true, List.isEmpty_eq_false_iff]
      intro e
      exact h0 (by show s.data.size = 0; rw [← Array.length_toList, e]; rfl)
  have h0k : okk s 0 = (decide (1 ≤ s.size) && decide ((s.size : Int) ≤ 8)) := by
    unfold okk
    rw [Bool.eq_iff_iff]
    simp
    omega
  have HS := Lib.hid hs
  have H0K := Lib.hid h0k
  have HP1 := Lib.hid (fun w => page_law 1 w)
  have HP2 := Lib.hid (fun w => page_law 2 w)
  have hs1 := page_size 1
  have hs2 := page_size 2
  generalize pageOf 1 = P at HP1 hs1
  generalize pageOf 2 = Q at HP2 hs2
  have HN := Lib.hid (fun w => name_at s w hs)
  have HOK := Lib.hid (fun (h : nameOk s = true) => nms_ok h hs1 hs2)
  clear hs h0k hs1 hs2
  by_cases h0 : s.size = 0
  · have hok : nameOk s = false := by
      rw [← okk_all, h0, H0K.out, h0]; rfl
    rw [hok] at HN
    have HE := Lib.hid (nms_bad (P := P) (Q := Q) hok)
    have hse2 : s.toList.isEmpty = true := by rw [hse, h0]; rfl
    have hz : (s.size : Int) = 0 := by omega
    clear hok hse HOK h0 H0K h40
    go_enter Try.func4, Try.ntmps4
    go_wp2
    go_loop [3, 4] (fun q i => q = .bool false ∧ i = .int .i64 0) (fun _ _ => 0)
    case atStart => exact ⟨rfl, rfl⟩
    case round =>
      obtain ⟨rfl, rfl⟩ := hrel
      go_wp2_with (first
    | (go_at_call 10; refine (new_at 1 _ (by decide) (by decide)).mono ?_; rintro e w1 ⟨b, bm, rfl, h1, hb1⟩; have H1 := Lib.hid h1; have B1 := Lib.hid (Below.trans (Below.refl w.heap.size w) (hb1.mono (Below.size (Below.refl w.heap.size w)))); clear h1 hb1)
    | (go_at_call 12; refine (HP2.out _).mono ?_; rintro e w5 ⟨rfl, hb5⟩; have H5 := Lib.hid (H4.out.below hb5); have B5 := Lib.hid (below_low B4.out hb5); clear hb5)
    | (go_at_call 12; refine (HP1.out _).mono ?_; rintro e w3 ⟨rfl, hb3⟩; have H3 := Lib.hid (H2.out.below hb3); have B3 := Lib.hid (below_low B2.out hb3); clear hb3)
    | (go_at_call 16; refine (HN.out w1).mono ?_; rintro e w2 ⟨rfl, hb2⟩; have H2 := Lib.hid (H1.out.below hb2); have B2 := Lib.hid (below_low B1.out hb2); clear hb2)
    | (go_at_call 17; refine (c_put HE.out.1 HS.out H3.out).mono ?_; rintro e w4 ⟨rfl, h4, hf4⟩; have H4 := Lib.hid h4; have B4 := Lib.hid (fr_low B3.out hf4); clear h4 hf4)
    | (go_at_call 11; refine (c_write (n := 0) HE.out.2.2 HS.out rfl (by decide) (fun j x hx => by simp at hx) H6.out).mono ?_; rintro e w7 ⟨rfl, h7, hf7⟩; have H7 := Lib.hid h7; have B7 := Lib.hid (fr_low B6.out hf7); clear h7 hf7)
    | (go_at_call 11; refine (c_write (n := 1) HE.out.2.1 HS.out rfl (by decide) (lies_lit w5 [Q] rfl) (H5.out.below ((Below.refl _ _).alloc (Nat.le_refl _) _))).mono ?_; rintro e w6 ⟨rfl, h6, hf6⟩; have H6 := Lib.hid h6; have B6 := Lib.hid (fr_low (below_low B5.out ((Below.refl _ _).alloc (Nat.le_refl _) _)) hf6); clear h6 hf6)
    | (go_at_call 18; refine (c_used (u := 0) rfl H7.out).mono ?_; rintro e w8 ⟨rfl, h8, hb8⟩; have B8 := Lib.hid (below_low B7.out hb8); clear h8 hb8)
    | (go_at_call 15; refine (does_at _).mono ?_; rintro e w9 ⟨rfl, hb9⟩; have B9 := Lib.hid (below_low B8.out hb9); clear hb9))
      go_ret
      exact ⟨rfl, B9.out⟩
  have hse2 : s.toList.isEmpty = false := by rw [hse, show decide (1 ≤ s.size) = true by simp; omega]; rfl
  have H0 : okk s 0 = decide ((s.size : Int) ≤ 8) := by rw [H0K.out, show decide (1 ≤ s.size) = true by simp; omega]; rfl
  have HH0 := Lib.hid H0
  have HLEN := Lib.hid (show s.size ≤ 40 by omega)
  clear hse H0K h0 H0
  go_enter Try.func4, Try.ntmps4
  go_wp2
  go_loop [3, 4] (fun q i => ∃ k : Nat, k ≤ s.size ∧ i = .int .i64 k ∧ q = .bool (okk s k)) (fun _ i => s.size - (intOf i).toNat)
  case atStart => exact ⟨0, by omega, rfl, by rw [HH0.out]⟩
  case round =>
    obtain ⟨k, hk, rfl, rfl⟩ := hrel
    by_cases hlt : k < s.size
    · have i1 : (k : Int) < (s.size : Int) := by omega
      have HK := Lib.hid (okk_step hlt)
      obtain ⟨c, hc⟩ : ∃ c, s[k]'hlt = c := ⟨_, rfl⟩
      rw [hc] at HK
      have hc2 : s[k] = c := hc
      have hu := c.toNat_lt
      cases hq : okk s k
      · rw [hq] at HK
        go_wp2
        go_round
        case rel => exact ⟨k + 1, by omega, by go_num, by rw [HK.out]; rfl⟩
        case measure => simp [intOf]; omega
      · rw [hq] at HK
        by_cases c1 : (33 : Int) ≤ (c.toNat : Int)
        · have d1 : decide ((33 : Int) ≤ (c.toNat : Int)) = true := decide_eq_true c1
          by_cases c2 : (c.toNat : Int) ≤ 126
          · have d2 : decide ((c.toNat : Int) ≤ 126) = true := decide_eq_true c2
            have hsn : seen c = true := by unfold seen; simp; omega
            rw [hsn] at HK
            go_wp2
            go_round
            case rel => exact ⟨k + 1, by omega, by go_num, by rw [HK.out]; rfl⟩
            case measure => simp [intOf]; omega
          · have d2 : decide ((c.toNat : Int) ≤ 126) = false := decide_eq_false c2
            have hsn : seen c = false := by unfold seen; simp; omega
            rw [hsn] at HK
            go_wp2
            go_round
            case rel => exact ⟨k + 1, by omega, by go_num, by rw [HK.out]; rfl⟩
            case measure => simp [intOf]; omega
        · have d1 : decide ((33 : Int) ≤ (c.toNat : Int)) = false := decide_eq_false c1
          have hsn : seen c = false := by unfold seen; simp; omega
          rw [hsn] at HK
          go_wp2
          go_round
          case rel => exact ⟨k + 1, by omega, by go_num, by rw [HK.out]; rfl⟩
          case measure => simp [intOf]; omega
    · obtain rfl : k = s.size := by omega
      rw [okk_all]
      cases hq : nameOk s
      · have HE := Lib.hid (nms_bad (P := P) (Q := Q) hq)
        rw [hq] at HN
        clear hq HOK hlt hk
        go_wp2_with (first
        | (go_at_call 10; refine (new_at 1 _ (by decide) (by decide)).mono ?_; rintro e w1 ⟨b, bm, rfl, h1, hb1⟩; have H1 := Lib.hid h1; have B1 := Lib.hid (Below.trans (Below.refl w.heap.size w) (hb1.mono (Below.size (Below.refl w.heap.size w)))); clear h1 hb1)
        | (go_at_call 12; refine (HP2.out _).mono ?_; rintro e w5 ⟨rfl, hb5⟩; have H5 := Lib.hid (H4.out.below hb5); have B5 := Lib.hid (below_low B4.out hb5); clear hb5)
        | (go_at_call 12; refine (HP1.out _).mono ?_; rintro e w3 ⟨rfl, hb3⟩; have H3 := Lib.hid (H2.out.below hb3); have B3 := Lib.hid (below_low B2.out hb3); clear hb3)
        | (go_at_call 16; refine (HN.out w1).mono ?_; rintro e w2 ⟨rfl, hb2⟩; have H2 := Lib.hid (H1.out.below hb2); have B2 := Lib.hid (below_low B1.out hb2); clear hb2)
        | (go_at_call 17; refine (c_put HE.out.1 HS.out H3.out).mono ?_; rintro e w4 ⟨rfl, h4, hf4⟩; have H4 := Lib.hid h4; have B4 := Lib.hid (fr_low B3.out hf4); clear h4 hf4)
        | (go_at_call 11; refine (c_write (n := 0) HE.out.2.2 HS.out rfl (by decide) (fun j x hx => by simp at hx) H6.out).mono ?_; rintro e w7 ⟨rfl, h7, hf7⟩; have H7 := Lib.hid h7; have B7 := Lib.hid (fr_low B6.out hf7); clear h7 hf7)
        | (go_at_call 11; refine (c_write (n := 1) HE.out.2.1 HS.out rfl (by decide) (lies_lit w5 [Q] rfl) (H5.out.below ((Below.refl _ _).alloc (Nat.le_refl _) _))).mono ?_; rintro e w6 ⟨rfl, h6, hf6⟩; have H6 := Lib.hid h6; have B6 := Lib.hid (fr_low (below_low B5.out ((Below.refl _ _).alloc (Nat.le_refl _) _)) hf6); clear h6 hf6)
        | (go_at_call 18; refine (c_used (u := 0) rfl H7.out).mono ?_; rintro e w8 ⟨rfl, h8, hb8⟩; have B8 := Lib.hid (below_low B7.out hb8); clear h8 hb8)
        | (go_at_call 15; refine (does_at _).mono ?_; rintro e w9 ⟨rfl, hb9⟩; have B9 := Lib.hid (below_low B8.out hb9); clear hb9))
        go_ret
        exact ⟨rfl, B9.out⟩
      · have HE := Lib.hid (HOK.out hq)
        rw [hq] at HN
        clear hq HOK hlt hk
        go_wp2_with (first
        | (go_at_call 10; refine (new_at 1 _ (by decide) (by decide)).mono ?_; rintro e w1 ⟨b, bm, rfl, h1, hb1⟩; have H1 := Lib.hid h1; have B1 := Lib.hid (Below.trans (Below.refl w.heap.size w) (hb1.mono (Below.size (Below.refl w.heap.size w)))); clear h1 hb1)
        | (go_at_call 12; refine (HP2.out _).mono ?_; rintro e w5 ⟨rfl, hb5⟩; have H5 := Lib.hid (H4.out.below hb5); have B5 := Lib.hid (below_low B4.out hb5); clear hb5)
        | (go_at_call 12; refine (HP1.out _).mono ?_; rintro e w3 ⟨rfl, hb3⟩; have H3 := Lib.hid (H2.out.below hb3); have B3 := Lib.hid (below_low B2.out hb3); clear hb3)
        | (go_at_call 16; refine (HN.out w1).mono ?_; rintro e w2 ⟨rfl, hb2⟩; have H2 := Lib.hid (H1.out.below hb2); have B2 := Lib.hid (below_low B1.out hb2); clear hb2)
        | (go_at_call 17; refine (c_put HE.out.1 HS.out H3.out).mono ?_; rintro e w4 ⟨rfl, h4, hf4⟩; have H4 := Lib.hid h4; have B4 := Lib.hid (fr_low B3.out hf4); clear h4 hf4)
        | (go_at_call 11; refine (c_write (n := 0) HE.out.2.2 HS.out rfl (by decide) (fun j x hx => by simp at hx) H6.out).mono ?_; rintro e w7 ⟨rfl, h7, hf7⟩; have H7 := Lib.hid h7; have B7 := Lib.hid (fr_low B6.out hf7); clear h7 hf7)
        | (go_at_call 11; refine (c_write (n := 1) HE.out.2.1 HS.out rfl (by decide) (lies_lit w5 [Q] rfl) (H5.out.below ((Below.refl _ _).alloc (Nat.le_refl _) _))).mono ?_; rintro e w6 ⟨rfl, h6, hf6⟩; have H6 := Lib.hid h6; have B6 := Lib.hid (fr_low (below_low B5.out ((Below.refl _ _).alloc (Nat.le_refl _) _)) hf6); clear h6 hf6)
        | (go_at_call 18; refine (c_used (u := 0) rfl H7.out).mono ?_; rintro e w8 ⟨rfl, h8, hb8⟩; have B8 := Lib.hid (below_low B7.out hb8); clear h8 hb8)
        | (go_at_call 15; refine (does_at _).mono ?_; rintro e w9 ⟨rfl, hb9⟩; have B9 := Lib.hid (below_low B8.out hb9); clear hb9))
        go_ret
        exact ⟨rfl, B9.out⟩
end Go.Proofs.Ytnpdnnaemfdinaa.F
