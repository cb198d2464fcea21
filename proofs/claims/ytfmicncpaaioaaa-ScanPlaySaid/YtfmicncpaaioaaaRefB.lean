/- The document's scan tells who is attached, and who waits. Conditions: those that each theorem names. -/
import Derived.Test.YtfmicncpaaioaaaRef
namespace Go.Proofs.Ytfmicncpaaioaaa.Sc
open Go.RowKit Go.Maps Go.Sort Go.Shelf
open Go.Proofs.Ytfmicncpaaioaaa.Ma
set_option linter.unusedVariables false
set_option linter.unusedSimpArgs false
theorem rids_at (B rb : Nat) (n a : Int) (L : List Ent) (v : Value) (wt : Bool) (w : World) (h : RefAt B w rb n a L v) (hlen : L.length ≤ 4) :
    Calls Try.prog 23 #[.pointer (some ⟨rb, 0, none⟩), .bool wt] w fun e w' => ∃ v', e = .returned v' ∧ w'.ownsRow w.heap.size 3 1 v' (idsOf (!wt) L).length ((idsOf (!wt) L).map encZ) ∧ Below w.heap.size w w' := by
  obtain ⟨A, c, rfl, hc, hcm, hn, hA⟩ := row_cells h.2
  have c2 := h.c2
  have hrb := lt_of_heap h.1
  have HN := Lib.hid hn
  have HA := Lib.hid hA
  clear h hn hA
  obtain ⟨i0, hi, hz0, hz1, hz2⟩ := info_parts info3
  go_enter Try.func23, Try.ntmps23
  go_wp2
  go_loopw [5, 6] (fun s i wr => ∃ (j : Nat) (vo : Value), j ≤ L.length ∧ i = .int .i64 j ∧ s = vo ∧ wr.ownsRow w.heap.size 3 1 vo (idsOf (!wt) (L.take j)).length ((idsOf (!wt) (L.take j)).map encZ) ∧ Below w.heap.size w wr) (fun _ i _ => L.length - (intOf i).toNat)
  case atStart => exact ⟨0, .slice none 0 0, by omega, rfl, rfl, by simpa [idsOf] using World.ownsRow_nil w w.heap.size 3 1, Below.refl _ _⟩
  case round =>
    obtain ⟨j, vo, hj, rfl, rfl, hrow, hbr⟩ := hrel
    have k2 := (hbr.cell (p := ⟨rb, 2, none⟩) hrb).trans c2
    by_cases hlt : j < L.length
    · obtain ⟨⟨x, y⟩, hx⟩ : ∃ p, L[j]? = some p := ⟨L[j], List.getElem?_eq_getElem _⟩
      obtain ⟨a, rfl⟩ : ∃ a, A = some a := by
        cases A with
        | none => have := (HN.out rfl).1; rw [this] at hlt; simp at hlt
        | some a => exact ⟨a, rfl⟩
      obtain ⟨g, rfl, _, hg, _, hcell⟩ := HA.out a rfl
      obtain ⟨d0, d1⟩ := hcell j _ hx
      have q0 := (hbr.cell (p := ⟨g, j * 2, none⟩) hg).trans d0
      have q1 := (hbr.cell (p := ⟨g, j * 2 + 1, none⟩) hg).trans d1
      have hsn := idsOf_snoc (!wt) L j (x, y) hx
      have hle := idsOf_le (!wt) L j
      have HSn := Lib.hid hsn
      have HBr := Lib.hid hbr
      clear hx hcell d0 d1 hsn hbr
      by_cases hall : ((!wt) || y) = true
      · have HAl := Lib.hid hall
        cases y <;> cases wt <;> first
          | (exact absurd hall (by decide))
          | (clear hall
             go_wp2_with (at_builtin; refine wpList_append_own_at _ rfl _ _ 36 rfl w.heap.size 3 i0 _ 1 8 Try.underlying36 hi hz0 hz1 hz2 rfl (by omega) _ _ _ rfl (hrow.alloc _) ⟨wr.heap.size, 0, none⟩ 1 1 [.int .i64 x] rfl rfl (cell_one_new _ _ _) (by simp [Value.oneCell']) (by unfold maxLen; omega) (by omega) (by have := HBr.out.size; simp; omega) ?_; intro vo' w2 hown2 hgrow2 hnil2 hloc2)
             go_roundw
             case rel =>
               refine ⟨j + 1, _, by omega, by go_num, rfl, ?_, ?_⟩
               · rw [HSn.out, if_pos HAl.out]
                 simpa using hown2
               · exact (HBr.out.alloc HBr.out.size _).grown hgrow2 (by have := HBr.out.size; simp; omega) (fun k hk => (hrow.lt k hk).1)
             case measure => simp [intOf]; omega)
      · have HAl := Lib.hid hall
        cases y <;> cases wt <;> first
          | (exact absurd (by decide) hall)
          | (clear hall
             go_wp2
             go_roundw
             case rel => exact ⟨j + 1, _, by omega, by go_num, rfl, by rw [HSn.out, if_neg HAl.out, List.append_nil]; exact hrow, HBr.out⟩
             case measure => simp [intOf]; omega)
    · obtain rfl : j = L.length := by omega
      rw [List.take_length] at hrow
      have HR := Lib.hid hrow
      have HBw := Lib.hid hbr
      clear hrow hbr
      go_wp2
      go_ret
      exact ⟨_, rfl, HR.out, HBw.out⟩
end Go.Proofs.Ytfmicncpaaioaaa.Sc
