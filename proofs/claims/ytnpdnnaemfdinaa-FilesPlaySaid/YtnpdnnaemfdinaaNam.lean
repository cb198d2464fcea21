/- Whether a text may be a name. Conditions: none. -/
import Derived.Laws.RangeAny
import Derived.Shelf.Strings.FuncGrows
import Derived.Test.YtnpdnnaemfdinaaRd
namespace Go.Proofs.Ytnpdnnaemfdinaa.F
open Go.RowKit Go.Maps Go.Sort Go.Shelf
open Go.Proofs.Ytnpdnnaemfdinaa.Ma
set_option linter.unusedVariables false
set_option linter.unusedSimpArgs false
def oddP (c : Nat) : Bool := decide (c ≤ 32) || decide (126 < c)
theorem idx_neg (s : ByteArray) : ∀ (f pos : Nat), s.size ≤ pos + f → (Lib.idxFuncFrom oddP true s f pos < 0 ↔ ∀ j, pos ≤ j → (h : j < s.size) → 33 ≤ (s[j]'h).toNat ∧ (s[j]'h).toNat ≤ 126)
  | 0, pos, hf => by
    simp only [Lib.idxFuncFrom]
    constructor
    · intro _ j h1 h2; omega
    · intro _; omega
  | f + 1, pos, hf => by
    unfold Lib.idxFuncFrom
    by_cases hp : pos < s.size
    · rw [if_pos hp]
      obtain ⟨v, hv⟩ : ∃ v, (s[pos]'hp).toNat = v := ⟨_, rfl⟩
      by_cases h1 : v < 128
      · have hd := decode_ascii s pos hp (by rw [hv]; exact h1)
        rw [hd, hv]
        dsimp only
        by_cases h2 : 33 ≤ v ∧ v ≤ 126
        · have e : oddP v = false := by unfold oddP; simp; omega
          rw [e, if_neg (by decide), idx_neg s f (pos + 1) (by omega)]
          constructor
          · intro h j hj hjs
            rcases Nat.lt_or_ge pos j with h3 | h3
            · exact h j h3 hjs
            · obtain rfl : j = pos := by omega
              rw [hv]; exact h2
          · intro h j hj hjs
            exact h j (by omega) hjs
        · have e : oddP v = true := by unfold oddP; simp; omega
          rw [e, if_pos rfl]
          constructor
          · intro h; omega
          · intro h
            have := h pos (Nat.le_refl _) hp
            rw [hv] at this
            exact absurd this h2
      · have hd := decode_high s pos hp (by rw [hv]; omega)
        have e : oddP (Utf8.decode s pos).1 = true := by unfold oddP; simp; omega
        rw [e, if_pos rfl]
        constructor
        · intro h; omega
        · intro h
          have := h pos (Nat.le_refl _) hp
          omega
    · rw [if_neg hp]
      constructor
      · intro _ j h1 h2; omega
      · intro _; omega
theorem nameOk_iff (s : ByteArray) : nameOk s = true ↔ (1 ≤ s.size ∧ s.size ≤ 8) ∧ Lib.idxFunc oddP true s < 0 := by
  unfold nameOk Lib.idxFunc
  rw [idx_neg s s.size 0 (by omega), Bool.and_eq_true, decide_eq_true_eq, List.all_eq_true]
  refine and_congr Iff.rfl ?_
  constructor
  · intro h j _ hj
    have := h (s[j]'hj) (by
      show s[j] ∈ s.data.toList
      rw [Array.mem_toList_iff]
      exact Array.getElem_mem (xs := s.data) hj)
    simpa using this
  · intro h x hx
    obtain ⟨j, hj, rfl⟩ := List.mem_iff_getElem.1 hx
    have hj2 : j < s.size := by simpa using hj
    have e : s.data.toList[j] = s[j]'hj2 := by rw [Array.getElem_toList]; rfl
    rw [e]
    exact decide_eq_true (h j (Nat.zero_le _) hj2)
theorem odd_any (c : Nat) (hc : c ≤ 1114111) (w : World) : Calls Try.prog 45 #[.int .i32 c] w fun e w' => e = .returned (.bool (oddP c)) ∧ w = w' := by
  unfold oddP
  by_cases h1 : (c : Int) ≤ 32
  · rw [show decide (c ≤ 32) = true by simp; omega]
    go_enter Try.func45, Try.ntmps45
    go_wp2
    go_ret
    exact ⟨rfl, rfl⟩
  · rw [show decide (c ≤ 32) = false by simp; omega]
    by_cases h2 : (126 : Int) < c
    · rw [show decide (126 < c) = true by simp; omega]
      go_enter Try.func45, Try.ntmps45
      go_wp2
      go_ret
      exact ⟨rfl, rfl⟩
    · rw [show decide (126 < c) = false by simp; omega]
      go_enter Try.func45, Try.ntmps45
      go_wp2
      go_ret
      exact ⟨rfl, rfl⟩
theorem enters45 : ∀ args w, (callFunc 45 args).run Try.prog w = .ok (.enter 45 args) w := enters_of Try.func45 (by kernel_rfl) rfl
theorem idx_any (s : ByteArray) (w : World) : Calls Try.prog 44 #[.string s, .func (.func 45) #[] #[]] w fun e w' => e = .returned (.int .i64 (Lib.idxFunc oddP true s)) ∧ Below w.heap.size w w' :=
  Any.strings_IndexFunc_grows Try.idxS 45 #[] enters45 oddP s w fun W x hx hb => (odd_any x hx W).mono fun e w' ⟨he, hw⟩ => ⟨he, hw ▸ Below.refl _ _⟩
theorem empty_of {s : ByteArray} (h : s.size = 0) : s = ⟨#[]⟩ := by
  obtain ⟨d⟩ := s
  have : d = #[] := Array.eq_empty_of_size_eq_zero h
  rw [this]
theorem name_at (s : ByteArray) (w : World) (hs : s.size ≤ maxLen) : Calls Try.prog 16 #[.string s] w fun e w' => e = .returned (.bool (nameOk s)) ∧ Below w.heap.size w w' := by
  have hiff := nameOk_iff s
  have hI := Lib.hid (idx_any s w)
  obtain ⟨bb, hbb⟩ : ∃ b, nameOk s = b := ⟨_, rfl⟩
  rw [hbb] at hiff ⊢
  generalize Lib.idxFunc oddP true s = k at hI hiff
  clear hbb
  by_cases h0 : s.size = 0
  · obtain rfl := empty_of h0
    have e : bb = false := by
      cases bb
      · rfl
      · have := hiff.1 rfl; omega
    subst e
    clear hiff h0
    go_enter Try.func16, Try.ntmps16
    go_wp2_with (go_at_call 44; refine hI.out.mono ?_; rintro e w' ⟨rfl, hb⟩; have HB := Lib.hid hb; clear hb)
    go_ret
    exact ⟨rfl, HB.out⟩
  · have hne : s.toList.isEmpty = false := by
      rw [ByteArray.toList_eq, List.isEmpty_eq_false_iff]
      intro e
      exact h0 (by show s.data.size = 0; rw [← Array.length_toList, e]; rfl)
    have hsz : s.size ≤ 9223372036854775807 := by unfold maxLen at hs; exact hs
    by_cases h8 : (s.size : Int) ≤ 8
    · by_cases hk : k < 0
      · have hkd : decide (k < 0) = true := decide_eq_true hk
        have e : bb = true := hiff.2 ⟨⟨by omega, by omega⟩, hk⟩
        subst e
        clear hiff hs
        go_enter Try.func16, Try.ntmps16
        go_wp2_with (go_at_call 44; refine hI.out.mono ?_; rintro e w' ⟨rfl, hb⟩; have HB := Lib.hid hb; clear hb)
        go_ret
        exact ⟨rfl, HB.out⟩
      · have hkd : decide (k < 0) = false := decide_eq_false hk
        have e : bb = false := by
          cases bb
          · rfl
          · have := hiff.1 rfl; omega
        subst e
        clear hiff hs
        go_enter Try.func16, Try.ntmps16
        go_wp2_with (go_at_call 44; refine hI.out.mono ?_; rintro e w' ⟨rfl, hb⟩; have HB := Lib.hid hb; clear hb)
        go_ret
        exact ⟨rfl, HB.out⟩
    · have e : bb = false := by
        cases bb
        · rfl
        · have := hiff.1 rfl; omega
      subst e
      clear hiff hs
      go_enter Try.func16, Try.ntmps16
      go_wp2_with (go_at_call 44; refine hI.out.mono ?_; rintro e w' ⟨rfl, hb⟩; have HB := Lib.hid hb; clear hb)
      go_ret
      exact ⟨rfl, HB.out⟩
end Go.Proofs.Ytnpdnnaemfdinaa.F
