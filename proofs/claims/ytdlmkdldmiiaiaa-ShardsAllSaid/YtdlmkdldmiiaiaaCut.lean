/- parts.Cut walked. Conditions: those that the theorem names. -/
import Derived.Test.YtdlmkdldmiiaiaaPdc
namespace Go.Proofs.Ytdlmkdldmiiaiaa.E
open Go.RowKit Go.Sort Go.Shelf
open Go.Proofs.Ytdlmkdldmiiaiaa.Ma Go.Proofs.Ytdlmkdldmiiaiaa.By Go.Proofs.Ytdlmkdldmiiaiaa.Enc
set_option linter.unusedVariables false
set_option linter.unusedSimpArgs false
/-- So many parts, as alike as may be. -/
def cutO (n s : Nat) : List Ed := (List.range s).map fun k : Nat => (((k * n / s : Nat) : Int), (((k + 1) * n / s : Nat) : Int))
theorem cut_len (n s : Nat) : (cutO n s).length = s := by unfold cutO; simp
theorem cut_at' {n s k : Nat} (h : k < s) : (cutO n s)[k]? = some (((k * n / s : Nat) : Int), (((k + 1) * n / s : Nat) : Int)) := by
  unfold cutO
  rw [List.getElem?_map, List.getElem?_range h]
  rfl
theorem info24p : (Try.prog.info? 24).map (fun i => (i.zero, i.size, i.bytes)) = some (some (.agg #[.int .i64 0, .int .i64 0]), 2, 16) := by kernel_rfl
/-- The first k parts, then nothing. -/
def cutCells (n s k : Nat) : List Value := cellsK enc2 ((cutO n s).take k) ++ List.replicate (2 * (s - k)) (.int .i64 0)
theorem made_two (v : Value) (m : Nat) : madeCells #[v, v] m = Array.replicate m v := by
  unfold madeCells
  apply Array.ext
  · simp
  · intro i h1 h2
    simp
    have : i % 2 = 0 ∨ i % 2 = 1 := by omega
    rcases this with h | h <;> simp [h]
theorem make_p (n : Nat) (h : n ≤ 1000) (w : World) : (Instr.makeSlice 57 (.int .i64 (n : Int)) (.int .i64 (n : Int))).run Try.prog w = .ok (.slice (some ⟨w.heap.size, 0, none⟩) n n) (w.alloc (.cells (Array.replicate (n * 2) (.int .i64 0)) 24 (0, 0))) := by
  obtain ⟨i0, hi, hz0, hz1, hz2⟩ := info_parts info24p
  have hr := run_makeSlice (P := Try.prog) w 57 24 i0 _ Try.underlying57 hi hz0 .i64 .i64 (n : Int) (n : Int) (by omega) (by omega) (by rw [hz1]; omega) (by rw [hz2]; omega) (by omega)
  rw [hr, hz1, show (Value.agg #[Value.int .i64 0, Value.int .i64 0]).cells = #[.int .i64 0, .int .i64 0] from rfl, made_two]
  simp
theorem cut_cells_len {n s k : Nat} (h : k ≤ s) : (cutCells n s k).length = s * 2 := by
  unfold cutCells
  rw [List.length_append, cellsK_length enc2_len, List.length_take, cut_len, List.length_replicate]
  omega
theorem cut_cells_step {n s k : Nat} (h : k < s) : ((cutCells n s k).set (k * 2) (.int .i64 ((k * n / s : Nat) : Int))).set (k * 2 + 1) (.int .i64 (((k + 1) * n / s : Nat) : Int)) = cutCells n s (k + 1) := by
  unfold cutCells
  have hl : (cellsK enc2 ((cutO n s).take k)).length = k * 2 := by rw [cellsK_length enc2_len, List.length_take, cut_len]; omega
  have e : List.replicate (2 * (s - k)) (Value.int .i64 0) = .int .i64 0 :: .int .i64 0 :: List.replicate (2 * (s - (k + 1))) (.int .i64 0) := by
    rw [show 2 * (s - k) = 2 * (s - (k + 1)) + 1 + 1 by omega, List.replicate_succ, List.replicate_succ]
  rw [e, List.set_append_right _ _ (by omega), hl, Nat.sub_self, List.set_append_right _ _ (by omega), hl, show k * 2 + 1 - k * 2 = 1 by omega, List.take_add_one, cut_at' h, Option.toList_some, cellsK_append, cellsK_one, List.append_assoc]
  rfl
theorem cut_cells_all (n s : Nat) : cutCells n s s = cellsK enc2 (cutO n s) := by
  unfold cutCells
  rw [Nat.sub_self, Nat.mul_zero, List.replicate_zero, List.append_nil, List.take_of_length_le (by rw [cut_len]; exact Nat.le_refl _)]
theorem lies_cells {w : World} {g : Nat} {L : List Ed} {T : TypeId} (h : w.heap[g]? = some (.cells (cellsK enc2 L).toArray T (0, 0))) : Lies enc2 2 w (some ⟨g, 0, none⟩) L := fun j x hx => by
  refine ⟨g, 0, rfl, lt_of_heap h, fun i u hu => cell_of_heap h ?_⟩
  rw [Nat.zero_add]
  have := cellsK_at enc2_len hx hu
  simpa using this
set_option maxRecDepth 100000 in
set_option maxHeartbeats 4000000 in
theorem cuts_at (n s : Nat) (w : World) (hn : 1 ≤ n ∧ n ≤ 256) (hs : 1 ≤ s ∧ s ≤ n ∧ s ≤ 16) :
    Calls Try.prog 27 #[.int .i64 (n : Int), .int .i64 (s : Int)] w fun e w' => ∃ g, e = .returned (.tuple #[.slice (some ⟨g, 0, none⟩) s s, .int .i64 0]) ∧ Lies enc2 2 w' (some ⟨g, 0, none⟩) (cutO n s) ∧ Below w.heap.size w w' := by
  have i1 : (1 : Int) ≤ (n : Int) := by omega
  have i2 : (n : Int) ≤ 256 := by omega
  have i3 : (1 : Int) ≤ (s : Int) := by omega
  have i4 : (s : Int) ≤ 16 := by omega
  have i5 : (s : Int) ≤ (n : Int) := by omega
  have t1 : decide ((n : Int) < 1) = false := decide_eq_false (by omega)
  have t2 : decide ((n : Int) > 256) = false := decide_eq_false (by omega)
  have t3 : decide ((s : Int) < 1) = false := decide_eq_false (by omega)
  have t4 : decide ((s : Int) > min (n : Int) 16) = false := decide_eq_false (by omega)
  have hmk := fun V => make_p s (by omega) V
  have HN := Lib.hid hn
  have HS := Lib.hid hs
  obtain ⟨W, hW, gW, bW, sW⟩ := box_new w (.cells (Array.replicate (s * 2) (.int .i64 0)) 24 (0, 0))
  have HG := Lib.hid (show W.heap[w.heap.size]? = some (.cells (cutCells n s 0).toArray 24 (0, 0)) by
    rw [gW]
    congr 2
    unfold cutCells
    rw [List.take_zero, Nat.sub_zero, Nat.mul_comm]
    simp [cellsK])
  have HB := Lib.hid bW
  have s0 : ¬ (s : Int) = 0 := by omega
  have s1 : ¬ s = 0 := by omega
  clear hn hs gW bW sW
  go_enter Try.func27, Try.ntmps27
  go_wp2
  clear hmk t1 t2 t3 t4
  go_loopw [28] (fun i wi => ∃ k : Nat, i = .int .i64 (k : Int) ∧ k ≤ s ∧ wi.heap[w.heap.size]? = some (.cells (cutCells n s k).toArray 24 (0, 0)) ∧ Below w.heap.size w wi) (fun i _ => s - (intOf i).toNat)
  case atStart => exact ⟨0, rfl, by omega, HG.out, HB.out⟩
  case round =>
    obtain ⟨k, rfl, hk, hg, hb⟩ := hrel
    have HGK := Lib.hid hg
    have HBK := Lib.hid hb
    by_cases hlt : k < s
    · obtain ⟨a, ha⟩ : ∃ a : Nat, k * n = a := ⟨_, rfl⟩
      obtain ⟨b, hb2⟩ : ∃ a : Nat, (k + 1) * n = a := ⟨_, rfl⟩
      have hs' := HS.out
      have hn' := HN.out
      have ha1 : a ≤ 4096 := by rw [← ha]; exact Nat.le_trans (Nat.mul_le_mul (show k ≤ 16 by omega) hn'.2) (by omega)
      have hb1 : b ≤ 4096 := by rw [← hb2]; exact Nat.le_trans (Nat.mul_le_mul (show k + 1 ≤ 16 by omega) hn'.2) (by omega)
      obtain ⟨x, hx⟩ : ∃ x : Nat, a / s = x := ⟨_, rfl⟩
      obtain ⟨y, hy⟩ : ∃ x : Nat, b / s = x := ⟨_, rfl⟩
      have hx1 : x ≤ 4096 := by rw [← hx]; exact Nat.le_trans (Nat.div_le_self _ _) ha1
      have hy1 : y ≤ 4096 := by rw [← hy]; exact Nat.le_trans (Nat.div_le_self _ _) hb1
      have m1 : IntKind.i64.wrap ((k : Int) * (n : Int)) = (a : Int) := by rw [show ((k : Int) * (n : Int)) = (a : Int) by rw [← ha]; push_cast; rfl]; exact IntWalk.i64_in _ ⟨by omega, by omega⟩
      have m2 : IntKind.i64.wrap (((k : Int) + 1) * (n : Int)) = (b : Int) := by rw [show (((k : Int) + 1) * (n : Int)) = (b : Int) by rw [← hb2]; push_cast; rfl]; exact IntWalk.i64_in _ ⟨by omega, by omega⟩
      have m3 : IntKind.i64.wrap ((k : Int) + 1) = (k : Int) + 1 := IntWalk.i64_in _ ⟨by omega, by omega⟩
      have d1 : (a : Int).tdiv (s : Int) = (x : Int) := by rw [← hx, Int.tdiv_eq_ediv_of_nonneg (by omega)]; push_cast; rfl
      have d2 : (b : Int).tdiv (s : Int) = (y : Int) := by rw [← hy, Int.tdiv_eq_ediv_of_nonneg (by omega)]; push_cast; rfl
      have e1 : IntKind.i64.wrap (x : Int) = (x : Int) := IntWalk.i64_in _ ⟨by omega, by omega⟩
      have e2 : IntKind.i64.wrap (y : Int) = (y : Int) := IntWalk.i64_in _ ⟨by omega, by omega⟩
      have j1 : (k : Int) < (s : Int) := by omega
      have HST := Lib.hid (cut_cells_step (n := n) hlt)
      rw [ha, hb2, hx, hy] at HST
      have HK := Lib.hid hlt
      clear ha hb2 ha1 hb1 hx1 hy1 hg hb hk hlt hs' hn'
      go_upto_region 7 with (fail)
      refine region_tail 15 (by kernel_rfl) (by kernel_rfl) fun wd hwd => ?_
      simp only [List.take_succ_cons, List.take_zero, List.drop_succ_cons, List.drop_zero]
      have HHd := Lib.hid (show wd.heap[w.heap.size]? = some (.cells (cutCells n s k).toArray 24 (0, 0)) by rw [hwd]; exact HGK.out)
      have HBd := Lib.hid (show Below w.heap.size w wd by rw [hwd]; exact HBK.out.drew)
      clear hwd
      repeat still_step
      refine wpStill_nil ?_
      have hl := cut_cells_len (n := n) (Nat.le_of_lt HK.out)
      have hk2 := HK.out
      obtain ⟨cv0, c0⟩ : ∃ v, wd.cell? ⟨w.heap.size, k * 2, none⟩ = some v := ⟨_, cell_of_heap HHd.out (by rw [List.getElem?_toArray]; exact List.getElem?_eq_getElem (by omega))⟩
      obtain ⟨cv1, c1⟩ : ∃ v, wd.cell? ⟨w.heap.size, k * 2 + 1, none⟩ = some v := ⟨_, cell_of_heap HHd.out (by rw [List.getElem?_toArray]; exact List.getElem?_eq_getElem (by omega))⟩
      have f0 := free_of_heap (i := k * 2) HHd.out (by simp; omega)
      have f1 := free_of_heap (i := k * 2 + 1) HHd.out (by simp; omega)
      clear hl hk2
      go_wp2
      go_roundw
      case rel =>
        refine ⟨k + 1, by go_num, HK.out, ?_, ?_⟩
        · have h2 := heap_setCell_at (heap_setCell_at HHd.out (i := k * 2) (.int .i64 (x : Int))) (i := k * 2 + 1) (.int .i64 (y : Int))
          rw [List.setIfInBounds_toArray, List.setIfInBounds_toArray, HST.out] at h2
          exact h2
        · exact HBd.out.trans (((Fr.setCell wd ⟨w.heap.size, k * 2, none⟩ _).trans (Fr.setCell _ ⟨w.heap.size, k * 2 + 1, none⟩ _)).below (by have := lt_of_heap HHd.out; omega) (fun j e => by have e' : j = w.heap.size := e; omega))
      case measure => have := HK.out; simp [intOf]; omega
    · obtain rfl : k = s := by omega
      clear hk hlt
      go_wp2
      obtain ⟨W9, hW9⟩ : ∃ V, wr = V := ⟨_, rfl⟩
      exact bodyPost_ret (v := .tuple #[.slice (some ⟨w.heap.size, 0, none⟩) k k, .int .i64 0]) (by simp [results, Try.results27, go_sem]) rfl ⟨_, rfl, lies_cells (by rw [← cut_cells_all]; exact HGK.out), HBK.out⟩
end Go.Proofs.Ytdlmkdldmiiaiaa.E
