/- Pages of one byte. Conditions: those that each theorem names. -/
import Derived.Test.YtnpdnnaemfdinaaFlp
namespace Go.Proofs.Ytnpdnnaemfdinaa.F
open Go.RowKit Go.Maps Go.Sort Go.Shelf
open Go.Proofs.Ytnpdnnaemfdinaa.Ma
set_option linter.unusedVariables false
set_option linter.unusedSimpArgs false
def pageOf (c : UInt8) : ByteArray := ⟨(List.replicate 128 c).toArray⟩
theorem page_size (c : UInt8) : (pageOf c).size = 128 := by
  show (List.replicate 128 c).toArray.size = 128
  simp
theorem info5 : (Try.prog.info? 5).map (fun i => (i.zero, i.size, i.bytes)) = some (some (.int .u8 0), 1, 1) := by kernel_rfl
def zeros (N : Nat) : Obj := .cells (List.replicate N (Value.int .u8 0)).toArray 5 (0, 0)
theorem make_b (N : Nat) (h : N ≤ 1000) (w : World) : (Instr.makeSlice 66 (.int .i64 (N : Int)) (.int .i64 (N : Int))).run Try.prog w = .ok (.slice (some ⟨w.heap.size, 0, none⟩) N N) (w.alloc (zeros N)) := by
  obtain ⟨i0, hi, hz0, hz1, hz2⟩ := info_parts info5
  have hr := run_makeSlice (P := Try.prog) w 66 5 i0 _ Try.underlying66 hi hz0 .i64 .i64 (N : Int) (N : Int) (by omega) (by omega) (by rw [hz1]; omega) (by rw [hz2]; omega) (by omega)
  rw [hr]
  have e : madeCells (Value.int .u8 0).cells ((N : Int).toNat * i0.size) = (List.replicate N (Value.int .u8 0)).toArray := by
    apply Array.ext'
    rw [show (Value.int IntKind.u8 0).cells = #[Value.int .u8 0] from rfl, toList_madeCells_one, hz1]
    simp
  rw [e]
  simp [zeros]
theorem make_128 (w : World) : (Instr.makeSlice 66 (.int .i64 128) (.int .i64 128)).run Try.prog w = .ok (.slice (some ⟨w.heap.size, 0, none⟩) 128 128) (w.alloc (zeros 128)) := make_b 128 (by omega) w
theorem text_at {w : World} {g c : Nat} {l : List UInt8} {C : Array Value} {fz : Nat × Nat} (h : w.heap[g]? = some (.cells C 5 fz)) (hC : ∀ j (hj : j < l.length), C[j]? = some (.int .u8 ((l[j]'hj).toNat : Int))) :
    (convert 66 9 (.slice (some ⟨g, 0, none⟩) l.length c)).run Try.prog w = .ok (.string ⟨l.toArray⟩) w :=
  run_convert_bytes_back (P := Try.prog) w 66 9 5 ⟨g, 0, none⟩ c l Try.underlying66 Try.underlying5 Try.underlying9 (fun k hk => by
    have e : (⟨g, 0, none⟩ : Addr).add k = ⟨g, k, none⟩ := by unfold Addr.add; split <;> simp_all
    rw [e]
    simp only [World.cell?, h]
    exact hC k hk)
set_option maxRecDepth 100000 in
set_option maxHeartbeats 1000000 in
theorem some_at (c : UInt8) (w : World) : Calls Try.prog 42 #[.string ⟨#[c]⟩, .int .i64 128] w fun e w' => e = .returned (.string (pageOf c)) ∧ Below w.heap.size w w' := by
  have hmk := make_128
  have hne : (ByteArray.toList ⟨#[c]⟩).isEmpty = false := by rw [ByteArray.toList_eq]; rfl
  have hsz1 : (ByteArray.mk #[c]).size = 1 := rfl
  obtain ⟨W, hW, gW, hbl, hsz⟩ := box_new w (zeros 128)
  have HSZ := Lib.hid hsz
  have HBL := Lib.hid hbl
  have HW := Lib.hid gW
  clear hsz hbl gW
  go_enter Try.func42, Try.ntmps42
  go_wp2
  go_loopw [6] (fun i wi => ∃ (k : Nat) (C : Array Value), k ≤ 128 ∧ i = .int .i64 k ∧ wi.heap[w.heap.size]? = some (.cells C 5 (0, 0)) ∧ C.size = 128 ∧ (∀ j, j < k → C[j]? = some (.int .u8 (c.toNat : Int))) ∧ Below w.heap.size w wi) (fun i _ => 128 - (intOf i).toNat)
  case atStart => exact ⟨0, _, by omega, rfl, HW.out, by simp, fun j hj => absurd hj (by omega), HBL.out⟩
  case round =>
    obtain ⟨k, C, hk, rfl, hh, hCs, hC, hb⟩ := hrel
    by_cases hlt : k < 128
    · have i1 : (k : Int) < 128 := by omega
      have cz : ∃ v, wr.cell? ⟨w.heap.size, k, none⟩ = some v := ⟨_, cell_of_heap hh (Array.getElem?_eq_getElem (by omega))⟩
      obtain ⟨v, cz⟩ := cz
      have cf : wr.frozen? ⟨w.heap.size, k, none⟩ = false := free_of_heap hh (by omega)
      have hm1 : (k : Int).tmod 1 = 0 := by simp
      have HH := Lib.hid hh
      have HC := Lib.hid hC
      have HB := Lib.hid hb
      have HCS := Lib.hid hCs
      clear hh hC hb hCs
      go_wp2
      go_roundw
      case rel =>
        refine ⟨k + 1, C.setIfInBounds k (.int .u8 (c.toNat : Int)), by omega, by go_num, heap_setCell_at HH.out _, by rw [Array.size_setIfInBounds]; exact HCS.out, fun j hj => ?_, ?_⟩
        · rw [Array.getElem?_setIfInBounds]
          by_cases hjk : k = j
          · subst hjk
            rw [if_pos rfl, if_pos (by rw [HCS.out]; exact hlt)]
          · rw [if_neg hjk]
            exact HC.out j (by omega)
        · exact ((HB.out).setCell (by show w.heap.size ≤ w.heap.size; omega) _)
      case measure => simp [intOf]; omega
    · obtain rfl : k = 128 := by omega
      have kt := text_at (c := 128) (l := List.replicate 128 c) hh (fun j hj => by
        rw [List.length_replicate] at hj
        rw [hC j hj, List.getElem_replicate])
      rw [List.length_replicate] at kt
      have HB := Lib.hid hb
      clear hh hC hb hCs
      go_wp2
      go_ret
      exact ⟨rfl, HB.out⟩
theorem page_law (c : UInt8) (w : World) : Calls Try.prog 12 #[.int .u8 (c.toNat : Int)] w fun e w' => e = .returned (.string (pageOf c)) ∧ Below w.heap.size w w' := by
  obtain ⟨W, hW, gW, hbl, hsz⟩ := box_new w (.cells #[.int .u8 (c.toNat : Int)] 5 (0, 0))
  have kt := text_at (c := 1) (l := [c]) gW (fun j hj => by
    obtain rfl : j = 0 := by simpa using hj
    rfl)
  rw [show [c].length = 1 from rfl, show [c].toArray = #[c] from rfl] at kt
  have HBL := Lib.hid hbl
  have HS := Lib.hid (some_at c W)
  clear gW hbl hsz
  go_enter Try.func12, Try.ntmps12
  go_wp2_with (go_at_call 42; refine HS.out.mono ?_; rintro e w2 ⟨rfl, hb⟩)
  go_ret
  exact ⟨rfl, Below.trans HBL.out (hb.mono HBL.out.size)⟩
end Go.Proofs.Ytnpdnnaemfdinaa.F
