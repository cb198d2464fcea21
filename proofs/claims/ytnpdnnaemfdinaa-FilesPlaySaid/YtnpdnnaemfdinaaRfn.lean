/- The document's Name, New, Fail, Read, Remove. Conditions: those that each theorem names. -/
import Derived.Test.YtnpdnnaemfdinaaRfs
namespace Go.Proofs.Ytnpdnnaemfdinaa.F
open Go.RowKit Go.Maps Go.Sort Go.Shelf
open Go.Proofs.Ytnpdnnaemfdinaa.Ma
set_option linter.unusedVariables false
set_option linter.unusedSimpArgs false
theorem ok_bad {s : ByteArray} {k : Nat} (h : k < s.size) (hc : seen (s[k]'h) = false) : nameOk s = false := by
  cases h2 : nameOk s with
  | false => rfl
  | true =>
    rw [← okk_all] at h2
    unfold okk at h2
    rw [Bool.and_eq_true] at h2
    have h3 := List.all_eq_true.1 h2.2 (s[k]'h) (by
      rw [List.take_of_length_le (by show s.data.toList.length ≤ s.data.size; simp)]
      show s[k] ∈ s.data.toList
      rw [Array.mem_toList_iff]
      exact Array.getElem_mem (xs := s.data) h)
    rw [hc] at h3
    cases h3
theorem ok_good {s : ByteArray} (h : ∀ k, (h : k < s.size) → seen (s[k]'h) = true) : nameOk s = decide (1 ≤ s.size ∧ s.size ≤ 8) := by
  have : (nm s).all seen = true := by
    rw [List.all_eq_true]
    intro x hx
    obtain ⟨j, hj, rfl⟩ := List.mem_iff_getElem.1 hx
    have hj2 : j < s.size := by simpa using hj
    have e : (nm s)[j]'hj = s[j]'hj2 := by
      show s.data.toList[j] = s[j]'hj2
      rw [Array.getElem_toList]; rfl
    rw [e]
    exact h j hj2
  rw [← okk_all]
  unfold okk
  rw [List.take_of_length_le (by show s.data.toList.length ≤ s.data.size; simp), this, Bool.and_true]
set_option maxRecDepth 100000 in
theorem rname_at (s : ByteArray) (hs : s.size ≤ maxLen) (w : World) : Calls Try.prog 29 #[.string s] w fun e w' => e = .returned (.bool (nameOk s)) ∧ w = w' := by
  have hs' : s.size ≤ 9223372036854775807 := by unfold maxLen at hs; exact hs
  obtain ⟨nk, hnk⟩ : ∃ q, nameOk s = q := ⟨_, rfl⟩
  rw [hnk]
  have HNK := Lib.hid hnk
  clear hs hnk
  go_enter Try.func29, Try.ntmps29
  go_wp2
  go_loop [3] (fun i => ∃ k : Nat, k ≤ s.size ∧ i = .int .i64 k ∧ ∀ j, j < k → (h : j < s.size) → seen (s[j]'h) = true) (fun i => s.size - (intOf i).toNat)
  case atStart => exact ⟨0, by omega, rfl, fun j hj => absurd hj (by omega)⟩
  case round =>
    obtain ⟨k, hk, rfl, hall⟩ := hrel
    have HALL := Lib.hid hall
    by_cases hlt : k < s.size
    · have i1 : (k : Int) < (s.size : Int) := by omega
      have HBAD := Lib.hid (ok_bad hlt)
      have HNEXT := Lib.hid (fun (hc : seen (s[k]'hlt) = true) => show ∀ j, j < k + 1 → (h : j < s.size) → seen (s[j]'h) = true from fun j hj h => by
        rcases Nat.lt_or_ge j k with h1 | h1
        · exact hall j h1 h
        · obtain rfl : j = k := by omega
          exact hc)
      obtain ⟨c, hc⟩ : ∃ c, s[k]'hlt = c := ⟨_, rfl⟩
      rw [hc] at HBAD HNEXT
      have hc2 : s[k] = c := hc
      have hu := c.toNat_lt
      clear hall
      by_cases c1 : (c.toNat : Int) < 33
      · have d1 : decide ((c.toNat : Int) < 33) = true := decide_eq_true c1
        have hsn : seen c = false := by unfold seen; simp; omega
        have HV := Lib.hid (show nk = false by rw [← HNK.out]; exact HBAD.out hsn)
        clear hsn
        go_wp2
        go_ret
        exact ⟨by rw [HV.out]; rfl, rfl⟩
      · have d1 : decide ((c.toNat : Int) < 33) = false := decide_eq_false c1
        by_cases c2 : (126 : Int) < (c.toNat : Int)
        · have d2 : decide ((126 : Int) < (c.toNat : Int)) = true := decide_eq_true c2
          have hsn : seen c = false := by unfold seen; simp; omega
          have HV := Lib.hid (show nk = false by rw [← HNK.out]; exact HBAD.out hsn)
          clear hsn
          go_wp2
          go_ret
          exact ⟨by rw [HV.out]; rfl, rfl⟩
        · have d2 : decide ((126 : Int) < (c.toNat : Int)) = false := decide_eq_false c2
          have hsn : seen c = true := by unfold seen; simp; omega
          have HN := Lib.hid (HNEXT.out hsn)
          clear hsn
          go_wp2
          go_round
          case rel => exact ⟨k + 1, by omega, by go_num, HN.out⟩
          case measure => simp [intOf]; omega
    · obtain rfl : k = s.size := by omega
      have hg := ok_good (s := s) (fun j h => hall j h h)
      rw [HNK.out] at hg
      have HG := Lib.hid hg
      clear hg hall
      by_cases h1 : (1 : Int) ≤ (s.size : Int)
      · have d1 : decide ((1 : Int) ≤ (s.size : Int)) = true := decide_eq_true h1
        by_cases h8 : (s.size : Int) ≤ 8
        · have d8 : decide ((s.size : Int) ≤ 8) = true := decide_eq_true h8
          have HV := Lib.hid (show nk = true by rw [HG.out]; exact decide_eq_true ⟨by omega, by omega⟩)
          go_wp2
          go_ret
          exact ⟨by rw [HV.out]; rfl, rfl⟩
        · have d8 : decide ((s.size : Int) ≤ 8) = false := decide_eq_false h8
          have HV := Lib.hid (show nk = false by rw [HG.out]; exact decide_eq_false (by omega))
          go_wp2
          go_ret
          exact ⟨by rw [HV.out]; rfl, rfl⟩
      · have d1 : decide ((1 : Int) ≤ (s.size : Int)) = false := decide_eq_false h1
        have HV := Lib.hid (show nk = false by rw [HG.out]; exact decide_eq_false (by omega))
        go_wp2
        go_ret
        exact ⟨by rw [HV.out]; rfl, rfl⟩
theorem rnew_bad (n : Int) (w : World) (h : n < 1 ∨ 4096 < n) : Calls Try.prog 20 #[.int .i64 n] w fun e w' => e = .returned (.tuple #[.pointer none, .int .i64 2]) ∧ w = w' := by
  by_cases h1 : n < 1
  · clear h
    go_enter Try.func20, Try.ntmps20
    go_wp2
    go_ret2
    exact ⟨rfl, rfl⟩
  · have h2 : 4096 < n := by omega
    clear h
    go_enter Try.func20, Try.ntmps20
    go_wp2
    go_ret2
    exact ⟨rfl, rfl⟩
theorem rnew_at (n : Int) (w : World) (h0 : 1 ≤ n) (h1 : n ≤ 4096) :
    Calls Try.prog 20 #[.int .i64 n] w fun e w' => e = .returned (.tuple #[.pointer (some ⟨w.heap.size, 0, none⟩), .int .i64 0]) ∧ RfX (fun k => k = w.heap.size) w' w.heap.size n (-1) [] ∧ w.heap.size < w'.heap.size ∧ Below w.heap.size w w' := by
  obtain ⟨W, hW, gW, hbl, hsz⟩ := box_new w (.cells #[.int .i64 n, .int .i64 (-1), .slice none 0 0] 51 (0, 0))
  have HR := Lib.hid (show RfX (fun k => k = w.heap.size) W w.heap.size n (-1) [] from ⟨⟨[], none, 0, rfl, gW, (fun j x hx => nomatch hx), (fun g o e => nomatch e), (fun x hx => nomatch hx)⟩, rfl⟩)
  have HB := Lib.hid hbl
  have HZ := Lib.hid (show w.heap.size < W.heap.size by omega)
  clear gW hbl hsz
  go_enter Try.func20, Try.ntmps20
  go_wp2
  go_ret2
  exact ⟨rfl, HR.out, HZ.out, HB.out⟩
section
variable {X : Nat → Prop} {w : World} {r : Nat} {room left : Int} {D : List De}
theorem RfX.step {S : Nat → Prop} {w' : World} (h : RfX X w' r room left D) : RfX (Xw X w w') w' r room left D := h.mono (fun k hk => .inl hk)
theorem rfail_at (n : Int) (h : RfX X w r room left D) :
    Calls Try.prog 50 #[.pointer (some ⟨r, 0, none⟩), .int .i64 n] w fun e w' => e = .returned (.int .i64 (failF left n).1) ∧ RfX (Xw X w w') w' r room (failF left n).2 D ∧ Fr (fun k => k = r) w w' := by
  unfold failF
  by_cases h0 : n < 0
  · rw [if_pos h0]
    have HR := Lib.hid (h.mono (fun k hk => .inl hk) : RfX (Xw X w w) w r room left D)
    clear h
    go_enter Try.func50, Try.ntmps50
    go_wp2
    go_ret
    exact ⟨rfl, HR.out, Fr.refl _ _⟩
  · rw [if_neg h0]
    have c1 := h.c1
    have f1 := h.f1
    have HA := Lib.hid (h.aim n)
    clear h
    go_enter Try.func50, Try.ntmps50
    go_wp2
    go_ret
    exact ⟨rfl, HA.out.1.mono (fun k hk => .inl hk), HA.out.2⟩
set_option maxRecDepth 100000 in
theorem rread_at (s : ByteArray) (i : Int) (h : RfX X w r room left D) (hn : D.length ≤ 4096) (hlf : -1 ≤ left ∧ left ≤ 9223372036854775807) (hll : (lookD D s).length ≤ 4096) :
    Calls Try.prog 30 #[.pointer (some ⟨r, 0, none⟩), .string s, .int .i64 i] w fun e w' => e = .returned (.tuple #[.string (readD left D s i).1, .int .i64 (readD left D s i).2.1]) ∧ RfX (Xw X w w') w' r room (readD left D s i).2.2 D ∧ Fr (fun k => k = r) w w' := by
  have HR := Lib.hid (rows_at s h hn)
  have H := Lib.hid h
  have c1 := h.c1
  have f1 := h.f1
  unfold readD
  by_cases h4 : thereD D s i = 4
  · rw [if_pos h4]
    have hcs : i < 0 ∨ ((lookD D s).length : Int) ≤ i := by
      unfold thereD at h4
      split at h4
      · cases h4
      · omega
    have H0 := Lib.hid (h.mono (fun k hk => .inl hk) : RfX (Xw X w w) w r room left D)
    generalize (lookD D s).length = m at HR hcs
    clear h h4
    by_cases hi : i < 0
    · clear hcs
      go_enter Try.func30, Try.ntmps30
      go_wp2_with (go_at_call 54; refine HR.out.mono ?_; rintro e w' ⟨A, c, rfl, _, _, rfl⟩)
      exact bodyPost_ret (v := .tuple #[.string ⟨#[]⟩, .int .i64 4]) (by simp [results, Try.results30, go_sem]) rfl ⟨rfl, H0.out, Fr.refl _ _⟩
    · have hi2 : (m : Int) ≤ i := by omega
      clear hcs
      go_enter Try.func30, Try.ntmps30
      go_wp2_with (go_at_call 54; refine HR.out.mono ?_; rintro e w' ⟨A, c, rfl, _, _, rfl⟩)
      exact bodyPost_ret (v := .tuple #[.string ⟨#[]⟩, .int .i64 4]) (by simp [results, Try.results30, go_sem]) rfl ⟨rfl, H0.out, Fr.refl _ _⟩
  · rw [if_neg h4]
    have hcs : ∃ (j : Nat) (x : ByteArray), i = (j : Int) ∧ (lookD D s)[j]? = some x := by
      unfold thereD at h4
      split at h4
      · rename_i h5
        exact ⟨i.toNat, _, by omega, List.getElem?_eq_getElem (by omega)⟩
      · exact absurd rfl h4
    obtain ⟨j, x, rfl, hx⟩ := hcs
    have hjl : (j : Int) < ((lookD D s).length : Int) := by have := (List.getElem?_eq_some_iff.1 hx).1; omega
    have hj4 : (j : Int) < 4096 := by omega
    obtain ⟨m, hm⟩ : ∃ m, (lookD D s).length = m := ⟨_, rfl⟩
    have HX := Lib.hid hx
    have hgd : (lookD D s).getD (j : Int).toNat ⟨#[]⟩ = x := by rw [Int.toNat_natCast]; simp [List.getD, hx]
    rw [hgd]
    by_cases hl0 : left = 0
    · subst hl0
      rw [if_pos rfl]
      have HA := Lib.hid (h.aim (-1))
      rw [hm] at HR hjl
      clear h h4 hx hm hgd hll
      go_enter Try.func30, Try.ntmps30
      go_wp2_with (go_at_call 54; refine HR.out.mono ?_; rintro e w' ⟨A, c, rfl, _, _, rfl⟩)
      exact bodyPost_ret (v := .tuple #[.string ⟨#[]⟩, .int .i64 60]) (by simp [results, Try.results30, go_sem]) rfl ⟨rfl, HA.out.1.mono (fun k hk => .inl hk), HA.out.2⟩
    · rw [if_neg hl0]
      have e0 : (left == 0) = false := by simpa using hl0
      rw [hm] at HR hjl
      by_cases hl1 : left = -1
      · subst hl1
        rw [if_pos rfl]
        have H0 := Lib.hid (h.mono (fun k hk => .inl hk) : RfX (Xw X w w) w r room (-1) D)
        clear h h4 hx hm hgd hll hl0
        go_enter Try.func30, Try.ntmps30
        go_wp2_with (go_at_call 54; refine HR.out.mono ?_; rintro e w' ⟨A, c, rfl, hl, _, rfl⟩; obtain ⟨g, o, e, _, q⟩ := lies_s hl HX.out; subst e)
        exact bodyPost_ret (v := .tuple #[.string x, .int .i64 0]) (by simp [results, Try.results30, go_sem]) rfl ⟨rfl, H0.out, Fr.refl _ _⟩
      · rw [if_neg hl1]
        have hpos : 0 < left := by omega
        obtain ⟨l1, hl1'⟩ : ∃ l, left - 1 = l := ⟨_, rfl⟩
        rw [hl1']
        have HA := Lib.hid (h.aim l1)
        have hb1 : -1 ≤ l1 ∧ l1 ≤ 9223372036854775807 := by omega
        have HAX := Lib.hid (fun (A : Option Addr) (hl : Lies encS 1 w A (lookD D s)) (hin : In X r A) => hl.fr HA.out.2 (fun g o e => (hin g o e).2))
        clear h h4 hx hm hgd hll hl0 hl1
        go_enter Try.func30, Try.ntmps30
        go_wp2_with (go_at_call 54; refine HR.out.mono ?_; rintro e w' ⟨A, c, rfl, hl, hin, rfl⟩; obtain ⟨g, o, e, _, q⟩ := lies_s (HAX.out A hl hin) HX.out; subst e)
        exact bodyPost_ret (v := .tuple #[.string x, .int .i64 0]) (by simp [results, Try.results30, go_sem]) rfl ⟨rfl, HA.out.1.mono (fun k hk => .inl hk), HA.out.2⟩
theorem rremove_at (s : ByteArray) (h : RfX X w r room left D) (hrise : D.Pairwise fun p q => nm p.1 < nm q.1) (hn : D.length ≤ 4096) :
    Calls Try.prog 49 #[.pointer (some ⟨r, 0, none⟩), .string s] w fun e w' => e = .returned (.int .i64 (removeF D s).1) ∧ RfX (Xw X w w') w' r room left (removeF D s).2 ∧ Fr (fun k => k = r) w w' := by
  have HP := Lib.hid (rpages_at s h hn)
  unfold removeF
  by_cases h0 : lookD D s = []
  · rw [if_pos h0]
    rw [h0] at HP
    have H0 := Lib.hid (h.mono (fun k hk => .inl hk) : RfX (Xw X w w) w r room left D)
    clear h h0
    go_enter Try.func49, Try.ntmps49
    go_wp2_with (go_at_call 27; refine HP.out.mono ?_; rintro e w' ⟨rfl, rfl⟩)
    go_ret
    exact ⟨rfl, H0.out, Fr.refl _ _⟩
  · rw [if_neg h0]
    obtain ⟨m, hm⟩ : ∃ m, (lookD D s).length = m := ⟨_, rfl⟩
    have hm0 : 0 < m := by rw [← hm]; exact List.length_pos_iff.2 h0
    have e0 : ((m : Int) == 0) = false := by simp; omega
    rw [hm] at HP
    have HS := Lib.hid (set_at ⟨s, none, 0, []⟩ h hrise hn (fun j x hx => nomatch hx) (fun g o e => nomatch e))
    clear h h0 hm
    go_enter Try.func49, Try.ntmps49
    go_wp2_with (first
      | (go_at_call 27; refine HP.out.mono ?_; rintro e w' ⟨rfl, rfl⟩)
      | (go_at_call 57; refine HS.out.mono ?_; rintro e w6 ⟨rfl, h6, hf6⟩))
    go_ret
    exact ⟨rfl, h6, hf6⟩
end
end Go.Proofs.Ytnpdnnaemfdinaa.F
