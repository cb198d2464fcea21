/- there, Fail, Read, lay, walked. Conditions: those that each theorem names. -/
import Derived.Test.YtnpdnnaemfdinaaFs
namespace Go.Proofs.Ytnpdnnaemfdinaa.F
open Go.RowKit Go.Maps Go.Sort Go.Shelf
open Go.Proofs.Ytnpdnnaemfdinaa.Ma
set_option linter.unusedVariables false
set_option linter.unusedSimpArgs false
section
variable {B : Nat} {w : World} {b bm : Nat} {room left : Int} {L : List En}
def thereC (L : List En) (s : ByteArray) (i : Int) : Int := if 0 ≤ i ∧ i < (look L s).2.length then 0 else 4
set_option maxRecDepth 100000 in
theorem there_at (s : ByteArray) (i : Int) (hs : s.size ≤ maxLen) (h : FsAt B w b bm room left L) : Calls Try.prog 43 #[.pointer (some ⟨b, 0, none⟩), .string s, .int .i64 i] w fun e w' => e = .returned (.int .i64 (thereC L s i)) ∧ w = w' := by
  have c2 := h.c2
  have hl := h.look hs
  obtain ⟨A, c, hA, _, _⟩ := found_slice h s
  rw [hA] at hl
  clear hA h
  unfold thereC
  generalize (look L s).2.length = n at hl ⊢
  by_cases h1 : i < 0
  · rw [if_neg (by omega)]
    go_enter Try.func43, Try.ntmps43
    go_wp2_with (go_at_call 36; refine (none_at _ _ _ c2).mono ?_; rintro e w' ⟨rfl, rfl⟩)
    go_ret
    exact ⟨rfl, rfl⟩
  by_cases h2 : i < (n : Int)
  · rw [if_pos (by omega)]
    go_enter Try.func43, Try.ntmps43
    go_wp2_with (go_at_call 36; refine (none_at _ _ _ c2).mono ?_; rintro e w' ⟨rfl, rfl⟩)
    go_ret
    exact ⟨rfl, rfl⟩
  · rw [if_neg (by omega)]
    have h2' : (n : Int) ≤ i := by omega
    go_enter Try.func43, Try.ntmps43
    go_wp2_with (go_at_call 36; refine (none_at _ _ _ c2).mono ?_; rintro e w' ⟨rfl, rfl⟩)
    go_ret
    exact ⟨rfl, rfl⟩
theorem FsAt.aim (h : FsAt B w b bm room left L) (n : Int) : FsAt B (w.setCell ⟨b, 1, none⟩ (.int .i64 n)) b bm room n L ∧ Fr (fun k => k = b) w (w.setCell ⟨b, 1, none⟩ (.int .i64 n)) := by
  have hf := Fr.setCell w ⟨b, 1, none⟩ (.int .i64 n)
  refine ⟨⟨by rw [heap_setCell_at h.blk]; rfl, hf.map h.own h.ne, fun p hp => ⟨hf.row (h.rows p hp).1 (fun g hg e => ?_), (h.rows p hp).2⟩, h.apart, h.rise, h.at_, h.small, h.names, h.full⟩, hf⟩
  have e' : g = b := e
  subst e'
  rcases (h.rows p hp).1.2 with ⟨e1, _⟩ | ⟨g', cap, cur, e1, _, hh, _⟩
  · rw [e1] at hg; cases hg
  · rw [e1] at hg
    cases hg
    rw [h.blk] at hh
    cases hh
theorem fail_bad (n : Int) (hn : n < 0) (h : FsAt B w b bm room left L) : Calls Try.prog 13 #[.pointer (some ⟨b, 0, none⟩), .int .i64 n] w fun e w' => e = .returned (.int .i64 2) ∧ w = w' := by
  have c2 := h.c2
  clear h
  go_enter Try.func13, Try.ntmps13
  go_wp2_with (go_at_call 36; refine (none_at _ _ _ c2).mono ?_; rintro e w' ⟨rfl, rfl⟩)
  go_ret
  exact ⟨rfl, rfl⟩
theorem fail_at (n : Int) (hn : 0 ≤ n) (h : FsAt B w b bm room left L) : Calls Try.prog 13 #[.pointer (some ⟨b, 0, none⟩), .int .i64 n] w fun e w' => e = .returned (.int .i64 0) ∧ FsAt B w' b bm room n L ∧ Fr (fun k => k = b) w w' := by
  have c2 := h.c2
  have c1 := h.c1
  have f1 := h.f1
  have HA := Lib.hid (h.aim n)
  have h2 : ¬ n < 0 := by omega
  clear h hn
  go_enter Try.func13, Try.ntmps13
  go_wp2_with (go_at_call 36; refine (none_at _ _ _ c2).mono ?_; rintro e w' ⟨rfl, rfl⟩)
  go_ret
  exact ⟨rfl, HA.out⟩
theorem thereC_cases (L : List En) (s : ByteArray) (i : Int) : (thereC L s i = 4) ∨ (thereC L s i = 0 ∧ ∃ (j : Nat) (x : ByteArray), i = (j : Int) ∧ (look L s).2[j]? = some x) := by
  unfold thereC
  by_cases h : 0 ≤ i ∧ i < (look L s).2.length
  · rw [if_pos h]
    exact .inr ⟨rfl, i.toNat, (look L s).2[i.toNat]'(by omega), by omega, List.getElem?_eq_getElem _⟩
  · rw [if_neg h]
    exact .inl rfl
/-- What Read answers, and how many reads are left then. -/
def readF (left : Int) (L : List En) (s : ByteArray) (i : Int) : ByteArray × Int × Int :=
  if thereC L s i = 4 then (⟨#[]⟩, 4, left)
  else if left = 0 then (⟨#[]⟩, 60, -1)
  else ((look L s).2.getD i.toNat ⟨#[]⟩, 0, if left = -1 then -1 else left - 1)
set_option maxRecDepth 100000 in
set_option maxHeartbeats 1000000 in
theorem read_at (s : ByteArray) (i : Int) (hs : s.size ≤ maxLen) (h : FsAt B w b bm room left L) (hlf : -1 ≤ left ∧ left ≤ 9223372036854775807) : Calls Try.prog 14 #[.pointer (some ⟨b, 0, none⟩), .string s, .int .i64 i] w fun e w' => e = .returned (.tuple #[.string (readF left L s i).1, .int .i64 (readF left L s i).2.1]) ∧ FsAt B w' b bm room (readF left L s i).2.2 L ∧ Fr (fun k => k = b) w w' := by
  have HT := Lib.hid (there_at s i hs h)
  have HF := Lib.hid h
  have c1 := h.c1
  have f1 := h.f1
  have c2 := h.c2
  unfold readF
  rcases thereC_cases L s i with h4 | ⟨h0, j, x, rfl, hx⟩
  · rw [if_pos h4]
    rw [h4] at HT
    clear h h4
    go_enter Try.func14, Try.ntmps14
    go_wp2_with (go_at_call 43; refine HT.out.mono ?_; rintro e w' ⟨rfl, rfl⟩)
    exact bodyPost_ret (v := .tuple #[.string ⟨#[]⟩, .int .i64 4]) (by simp [results, Try.results14, go_sem]) rfl ⟨rfl, HF.out, Fr.refl _ _⟩
  · rw [if_neg (by rw [h0]; decide)]
    rw [h0] at HT
    by_cases hl0 : left = 0
    · subst hl0
      rw [if_pos rfl]
      obtain ⟨HA, HA2⟩ := h.aim (-1)
      have r1 := HA.c1
      have HAh := Lib.hid (And.intro HA HA2)
      clear h HA HA2 h0 hx
      go_enter Try.func14, Try.ntmps14
      go_wp2_with (go_at_call 43; refine HT.out.mono ?_; rintro e w' ⟨rfl, rfl⟩)
      exact bodyPost_ret (v := .tuple #[.string ⟨#[]⟩, .int .i64 60]) (by simp [results, Try.results14, go_sem]) rfl ⟨rfl, HAh.out⟩
    · rw [if_neg hl0]
      have hgd : (look L s).2.getD (j : Int).toNat ⟨#[]⟩ = x := by rw [Int.toNat_natCast]; simp [List.getD, hx]
      rw [hgd]
      by_cases hl1 : left = -1
      · subst hl1
        rw [if_pos rfl]
        obtain ⟨g, c, hA, _, hg, hc, hcm, q0, _⟩ := row_s (h.found s).1 hx
        have hl := h.look hs
        rw [hA] at hl
        have hjn : (j : Int) < ((look L s).2.length : Int) := by have := (List.getElem?_eq_some_iff.1 hx).1; omega
        generalize (look L s).2.length = n at hl hjn
        clear h hA h0 hx hgd hg hc
        go_enter Try.func14, Try.ntmps14
        go_wp2_with (go_at_call 43; refine HT.out.mono ?_; rintro e w' ⟨rfl, rfl⟩)
        exact bodyPost_ret (v := .tuple #[.string x, .int .i64 0]) (by simp [results, Try.results14, go_sem]) rfl ⟨rfl, HF.out, Fr.refl _ _⟩
      · rw [if_neg hl1]
        obtain ⟨l1, hl1'⟩ : ∃ l, left - 1 = l := ⟨_, rfl⟩
        rw [hl1']
        obtain ⟨HA, HA2⟩ := h.aim l1
        have r1 := HA.c1
        have r2 := HA.c2
        obtain ⟨g, c, hA, _, hg, hc, hcm, q0, _⟩ := row_s (HA.found s).1 hx
        have hl := HA.look hs
        rw [hA] at hl
        have hjn : (j : Int) < ((look L s).2.length : Int) := by have := (List.getElem?_eq_some_iff.1 hx).1; omega
        generalize (look L s).2.length = n at hl hjn
        have HAh := Lib.hid (And.intro HA HA2)
        have e1 : (left != -1) = true := by simpa using hl1
        have e2 : (l1 == -1) = false := by simp; omega
        have hb1 : -1 ≤ l1 ∧ l1 ≤ 9223372036854775807 := by omega
        clear h hA h0 hx hgd hg hc HA HA2
        go_enter Try.func14, Try.ntmps14
        go_wp2_with (go_at_call 43; refine HT.out.mono ?_; rintro e w' ⟨rfl, rfl⟩)
        exact bodyPost_ret (v := .tuple #[.string x, .int .i64 0]) (by simp [results, Try.results14, go_sem]) rfl ⟨rfl, HAh.out⟩
end
end Go.Proofs.Ytnpdnnaemfdinaa.F
