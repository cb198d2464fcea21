/- What a file system's functions tell, each once. Conditions: those that each theorem names. -/
import Derived.Test.YtnpdnnaemfdinaaMf
namespace Go.Proofs.Ytnpdnnaemfdinaa.F
open Go.RowKit Go.Maps Go.Sort Go.Shelf
open Go.Proofs.Ytnpdnnaemfdinaa.Ma
set_option linter.unusedVariables false
set_option linter.unusedSimpArgs false
section
variable {B : Nat} {w : World} {b bm : Nat} {room left : Int} {L : List En}
theorem none_at (b bm : Nat) (w : World) (c : w.cell? ⟨b, 2, none⟩ = some (.map (some bm))) : Calls Try.prog 36 #[.pointer (some ⟨b, 0, none⟩)] w fun e w' => e = .returned (.bool false) ∧ w = w' := by
  have hm := fun (w : World) (r : Option Nat) => run_eql_map_nil (P := Try.prog) w 53 9 28 r Try.underlying53
  go_enter Try.func36, Try.ntmps36
  go_wp2
  go_ret
  exact ⟨rfl, rfl⟩
theorem none_nil (w : World) : Calls Try.prog 36 #[.pointer none] w fun e w' => e = .returned (.bool true) ∧ w = w' := by
  go_enter Try.func36, Try.ntmps36
  go_wp2
  go_ret
  exact ⟨rfl, rfl⟩
theorem none_empty (b : Nat) (w : World) (c : w.cell? ⟨b, 2, none⟩ = some (.map none)) : Calls Try.prog 36 #[.pointer (some ⟨b, 0, none⟩)] w fun e w' => e = .returned (.bool true) ∧ w = w' := by
  have hm := fun (w : World) (r : Option Nat) => run_eql_map_nil (P := Try.prog) w 53 9 28 r Try.underlying53
  go_enter Try.func36, Try.ntmps36
  go_wp2
  go_ret
  exact ⟨rfl, rfl⟩
theorem found_slice (h : FsAt B w b bm room left L) (s : ByteArray) : ∃ A c, (look L s).1 = .slice A (look L s).2.length c ∧ (look L s).2.length ≤ c ∧ c ≤ 9223372036854775807 := by
  have hr := (h.found s).1
  rcases hr.2 with ⟨e, hn⟩ | ⟨g, cap, cur, e, hb, hg, hc, hm, _⟩
  · exact ⟨none, 0, by rw [e, hn], by omega, by omega⟩
  · exact ⟨_, cap, e, hc, by unfold maxLen at hm; omega⟩
theorem pages_at (s : ByteArray) (hs : s.size ≤ maxLen) (h : FsAt B w b bm room left L) : Calls Try.prog 26 #[.pointer (some ⟨b, 0, none⟩), .string s] w fun e w' => e = .returned (.int .i64 (look L s).2.length) ∧ w = w' := by
  have c2 := h.c2
  have hl := h.look hs
  obtain ⟨A, c, hA, _, _⟩ := found_slice h s
  rw [hA] at hl
  clear hA h
  go_enter Try.func26, Try.ntmps26
  go_wp2_with (go_at_call 36; refine (none_at _ _ _ c2).mono ?_; rintro e w' ⟨rfl, rfl⟩)
  go_ret
  exact ⟨rfl, rfl⟩
theorem sortsS (m : Nat) : AnyZ.SortsIn Try.prog Try.sortedS_ren Fence.wide m :=
  ⟨fun blk off cap ss W hH hblk hsz => callsIn_wide.2 (Any.slices_Sort_string Try.sortS blk off cap ss W hH hblk hsz),
   fun p cap W => callsIn_wide.2 (Any.slices_Sort_string_none Try.sortS p cap W)⟩
set_option maxHeartbeats 1000000 in
theorem names_at (h : FsAt B w b bm room left L) :
    Calls Try.prog 24 #[.pointer (some ⟨b, 0, none⟩)] w fun e w' => ∃ v, e = .returned v ∧ w'.ownsRow w.heap.size 9 1 v L.length (L.map fun p => Value.string p.1) ∧ (v = .slice none 0 0 ↔ L = []) ∧ Below w.heap.size w w' := by
  refine (callsIn_wide (n := 6)).1 ?_
  have hown := h.own
  have hr := h.rise
  have hlen := h.count
  have hbl := hown.lt
  have c2 := h.c2
  have hnone := none_at b bm w c2
  have hsize : Maps.size (mk L) = L.length := mk_size L
  have hmax : Maps.size (mk L) ≤ maxLen := by rw [hsize]; unfold maxLen; omega
  have hbytes : Maps.size (mk L) * 16 ≤ 140737488355328 := by rw [hsize]; omega
  have hseq : SeqGives Fence.wide 2 Try.prog 60 #[.pointer (some ⟨w.heap.size, 0, none⟩)] encStr (fun ss => ss.Perm (strKeys (mk L))) (Maps.size (mk L)) (w.alloc (.cells #[.map (some bm)] 53)) :=
    AnyZ.keys_gives (ρ := Try.keysS_ren) { Try.keysS with } Fence.wide _ trivial rfl (by omega) w.heap.size bm L.length (mk L) _ (by simp) (by simp) (by
      obtain ⟨es, clock, hb, Ft, hs, hD⟩ := hown
      exact ⟨es, clock, (Below.heap_alloc _ _ bm hbl).trans hb, Ft, hs, hD⟩)
  have cK : ∀ mb W, CallsIn Fence.wide 5 Try.prog 53 #[.map mb] W fun e w' => e = .returned (.func (.func 60) #[] #[.pointer (some ⟨W.heap.size, 0, none⟩)]) ∧ w' = W.alloc (.cells #[.map mb] 53) := fun mb W => AnyZ.keys_in Try.keysS Fence.wide 5 trivial rfl mb W
  have cS := AnyZ.sorted_in Try.sortedS Fence.wide 5 trivial trivial trivial trivial rfl (by omega) (sortsS _) (enters_of Try.func59 (by kernel_rfl) rfl) 60 #[.pointer (some ⟨w.heap.size, 0, none⟩)] trivial (enters_of Try.func60 (by kernel_rfl) rfl) _ _ hmax hbytes _ hseq
  change CallsIn _ _ Try.prog 52 _ _ _ at cS
  have hfK : Fence.wide.fn 53 := trivial
  have hfS : Fence.wide.fn 52 := trivial
  have hfN : Fence.wide.fn 36 := trivial
  clear hseq hmax hbytes hsize
  have HO := Lib.hid hown
  have HR := Lib.hid hr
  clear hown hr h
  refine callsIn_of_wp Try.func24 rfl trivial ?_ rfl
  simp only [Try.ntmps24, List.size_toArray, List.length_cons, List.length_nil, Nat.reduceAdd, Nat.reduceSub, Array.replicate_succ, Array.replicate_zero, List.push_toArray, List.append_toArray, List.nil_append, List.cons_append]
  gi_wp2_with (first
    | (gi_at_call 36; refine (callsIn_wide.2 hnone).mono ?_; rintro e w' ⟨rfl, rfl⟩)
    | (gi_at_call 53; refine (cK _ _).mono ?_; rintro e w' ⟨rfl, rfl⟩)
    | (gi_at_call 52; refine cS.mono ?_; rintro e w' ⟨v, ss, rfl, hS, hrow, hnil, hb⟩))
  go_ret
  have hp : ss.mergeSort leB = L.map fun p => nm p.1 := by
    rw [mergeSort_of_perm hS, mk_keys]
    exact sorted_keys HR.out
  have hl : ss.length = L.length := by
    have := hS.length_eq
    rw [mk_keys] at this
    simpa using this
  refine ⟨v, rfl, ?_, ?_, ((Below.refl _ w).alloc (Nat.le_refl _) _).trans (hb.mono (by simp))⟩
  · have h1 := row_base (B' := w.heap.size) hrow (by simp)
    rw [show (ss.mergeSort (fun x y => decide (x ≤ y))) = L.map (fun p => nm p.1) from hp, hl, List.map_map] at h1
    exact h1
  · rw [hnil, ← List.length_eq_zero_iff, hl, List.length_eq_zero_iff]
theorem pages_mono (L : List En) (k : Nat) : pagesOf (L.take k) ≤ pagesOf L := by
  unfold pagesOf
  have : L.map (fun p => p.2.2.length) = (L.take k).map (fun p => p.2.2.length) ++ (L.drop k).map (fun p => p.2.2.length) := by rw [← List.map_append, List.take_append_drop]
  rw [this, List.sum_append]
  omega
set_option maxHeartbeats 1000000 in
theorem used_at (h : FsAt B w b bm room left L) : Calls Try.prog 18 #[.pointer (some ⟨b, 0, none⟩)] w fun e w' => e = .returned (.int .i64 (pagesOf L)) ∧ Below w.heap.size w w' := by
  have HF := Lib.hid h
  have hcnt := h.count
  have HN := Lib.hid (names_at h)
  clear h
  go_enter Try.func18, Try.ntmps18
  go_wp2_with (go_at_call 24; refine HN.out.mono ?_; rintro e w1 ⟨v, rfl, hr, _, hb⟩; have HR := Lib.hid hr; have HB := Lib.hid hb; obtain ⟨A, c, rfl, _, _⟩ := row_open encS_len hr; clear hr hb)
  have HF1 := Lib.hid (HF.out.below HB.out)
  go_loopw [3, 9] (fun s i wr => ∃ k n : Nat, k ≤ L.length ∧ i = .int .i64 k ∧ s = .int .i64 n ∧ n = pagesOf (L.take k) ∧ wr = w1) (fun _ i _ => L.length - (intOf i).toNat)
  case atStart => exact ⟨0, 0, by omega, rfl, rfl, rfl, rfl⟩
  case round =>
    obtain ⟨k, n, hk, rfl, rfl, hn, rfl⟩ := hrel
    have hn4 : n ≤ 4096 := by have := pages_mono L k; have := HF.out.small; omega
    by_cases hlt : k < L.length
    · obtain ⟨p, hp⟩ : ∃ p, L[k]? = some p := ⟨L[k], List.getElem?_eq_getElem _⟩
      obtain ⟨g, c', e, _, hg, _, _, q0, _⟩ := row_s (S := L.map (·.1)) (by rw [List.length_map, List.map_map]; exact HR.out) (j := k) (x := p.1) (by rw [List.getElem?_map, hp]; rfl)
      injection e with e1 _ e2
      subst e1 e2
      have hmem := List.mem_of_getElem? hp
      have hl := HF1.out.look (name_size (HF.out.names p hmem))
      obtain ⟨A2, c2, hA, _, _⟩ := found_slice HF1.out p.1
      rw [hA] at hl
      have c2' := HF1.out.c2
      have hlk := look_at HF.out.rise hp
      have hm : (look L p.1).2.length = p.2.2.length := by rw [hlk]
      rw [hm] at hl
      have hpt := Lib.hid (pages_take hp)
      have hm4 : p.2.2.length ≤ 4096 := by have := (HF.out.found p.1).2; omega
      obtain ⟨m, hmm⟩ : ∃ m, p.2.2.length = m := ⟨_, rfl⟩
      rw [hmm] at hl hm4
      obtain ⟨nmk, hnm⟩ : ∃ s, p.1 = s := ⟨_, rfl⟩
      rw [hnm] at hl q0
      have HM := Lib.hid hmm
      have HN2 := Lib.hid hn
      have i1 : (k : Int) < (L.length : Int) := by omega
      simp only [List.length_map] at *
      clear hp hmem hA hlk hm hmm hnm hn hg
      go_wp2
      go_roundw
      case rel => exact ⟨k + 1, n + m, by omega, by go_num, by go_num, by rw [hpt.out, ← HN2.out, HM.out], trivial⟩
      case measure => simp [intOf]; omega
    · obtain rfl : k = L.length := by omega
      rw [List.take_length] at hn
      go_wp2
      go_ret
      subst hn
      exact ⟨rfl, HB.out⟩
end
end Go.Proofs.Ytnpdnnaemfdinaa.F
