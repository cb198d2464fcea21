/- LedgerLast, walked: of what is left just so much can be had. Conditions: the numbers are of their kind. -/
import Derived.Test.YtdgjhnamfgpgeaaAdds
namespace Go.Proofs.Ytdgjhnamfgpgeaa.Led
open Go.RowKit Go.Maps
open Go.Proofs.Ytdgjhnamfgpgeaa.Ma
set_option linter.unusedVariables false
set_option linter.unusedSimpArgs false
theorem last_small (total need : Int) (w : World) (h : total < 2) : Calls Try.prog 6 #[.int .u64 total, .int .u64 need] w fun e w' => e = .returned (.bool true) ∧ Below w.heap.size w w' := by
  go_enter Try.func6, Try.ntmps6
  go_wp2_with (go_at_call 7; refine (adds_calls _).mono ?_; rintro e w' ⟨rfl, hb⟩)
  go_ret
  exact ⟨rfl, hb⟩
theorem last_at (total need : Int) (w : World) (h : 2 ≤ total) (h1 : total ≤ 18446744073709551615) (hn : 0 ≤ need) (hn1 : need ≤ 18446744073709551615) : Calls Try.prog 6 #[.int .u64 total, .int .u64 need] w fun e w' => e = .returned (.bool true) ∧ Below w.heap.size w w' := by
  have ht : (total - 1 == 0) = false := by simpa using (show total - 1 ≠ 0 by omega)
  have hm := Int.emod_nonneg need (show total - 1 ≠ 0 by omega)
  have hm2 := Int.emod_lt_of_pos need (show 0 < total - 1 by omega)
  go_enter Try.func6, Try.ntmps6
  go_wp2_with fail
  obtain ⟨nd, hnd⟩ : ∃ nd, 1 + need % (total - 1) = nd := ⟨_, rfl⟩
  have n1 : 1 ≤ nd := by omega
  have n2 : nd + 1 ≤ total := by omega
  rw [hnd]
  clear hnd hm hm2 ht
  have hU : U64 nd := ⟨by omega, by omega⟩
  have hU2 : U64 (total - nd) := ⟨by omega, by omega⟩
  have hU3 : U64 (total - nd + 1) := ⟨by omega, by omega⟩
  refine (new_step w w total (by omega) h1 (Below.refl _ _)).mono ?_
  rintro e w1 ⟨b, bm, rfl, s1, _, _, _⟩
  go_wp2_with fail
  refine (res_step s1 (c := 0) (L' := [(7, nd)]) (resF_yes (by omega) (by simp [Ma.look]) (by simp [sum]; omega) rfl) (by decide) hU (by simp)).mono ?_
  rintro e w2 ⟨rfl, s2, _⟩
  go_wp2_with fail
  refine (fits_step s2 (f := true) (by simp [sum])).mono ?_
  rintro e w3 ⟨rfl, s3, _⟩
  go_wp2_with fail
  refine (fits_step s3 (f := false) (by simp [sum]; omega)).mono ?_
  rintro e w4 ⟨rfl, s4, _⟩
  go_wp2_with fail
  refine (res_step s4 (c := 230) (L' := [(7, nd)]) (resF_full (by omega) (by simp [Ma.look]) (by simp [sum]; omega)) (by decide) hU3 (by simp)).mono ?_
  rintro e w5 ⟨rfl, s5, _⟩
  go_wp2_with fail
  refine (res_step s5 (c := 2) (L' := [(7, nd)]) (resF_bad (.inr (by simp [Ma.look]; omega))) (by decide) hU2 (by simp)).mono ?_
  rintro e w6 ⟨rfl, s6, _⟩
  go_wp2_with fail
  refine (res_step s6 (c := 0) (L' := [(7, nd), (8, total - nd)]) (resF_yes (by omega) (by simp [Ma.look]) (by simp [sum]) (by simp [ins, del])) (by decide) hU2 (by simp)).mono ?_
  rintro e w7 ⟨rfl, s7, _⟩
  go_wp2_with fail
  refine (fits_step s7 (f := false) (by simp [sum]; omega)).mono ?_
  rintro e w8 ⟨rfl, s8, _⟩
  go_wp2_with fail
  refine (used_step s8 (u := total) (by simp [sum]; omega)).mono ?_
  rintro e w' ⟨rfl, rfl⟩
  go_wp2_with fail
  refine (rel_step s8 (c := 0) (L' := [(8, total - nd)]) (by simp [relF, Ma.look, del]; omega) (by decide)).mono ?_
  rintro e w9 ⟨rfl, s9, _⟩
  go_wp2_with fail
  refine (fits_step s9 (f := true) (by simp [sum]; omega)).mono ?_
  rintro e w10 ⟨rfl, s10, _⟩
  go_wp2_with fail
  refine (held_step s10 (u := total - nd) (by simp [Ma.look]) (by decide)).mono ?_
  rintro e w' ⟨rfl, rfl⟩
  go_wp2_with fail
  refine (adds_calls _).mono ?_
  rintro e w11 ⟨rfl, hb⟩
  go_wp2
  go_ret
  exact ⟨rfl, s10.below.trans (hb.mono s10.below.size)⟩
theorem u64_wf {x : Int} (h : (Lit.int .u64 x).wf = true) : U64 x := by
  simp only [Lit.wf, IntKind.min, IntKind.max, IntKind.signed, IntKind.bits] at h
  simp at h
  exact ⟨by omega, by omega⟩
theorem last_all (total need : Int) (w : World) (h0 : (Lit.int .u64 total).wf = true) (h1 : (Lit.int .u64 need).wf = true) : Calls Try.prog 6 #[.int .u64 total, .int .u64 need] w fun e w' => e = .returned (.bool true) ∧ Below w.heap.size w w' := by
  have a := u64_wf h0
  have b := u64_wf h1
  by_cases h : total < 2
  · exact last_small total need w h
  · exact last_at total need w (by omega) a.2 b.1 b.2
end Go.Proofs.Ytdgjhnamfgpgeaa.Led
