/- What the ledger tells of who has something: their numbers, rising, in new memory. Condition: the ledger lies as it may. -/
import Derived.Shelf.SlIterI.Nil
import Derived.Shelf.SortM.Plain
import Derived.Shelf.SortM.SortNone
import Derived.Test.YtdgjhnamfgpgeaaShelf
import Derived.Test.YtdgjhnamfgpgeaaLed
namespace Go.Proofs.Ytdgjhnamfgpgeaa.Led
open Go.RowKit Go.Maps Go.Sort Go.Shelf
open Go.Proofs.Ytdgjhnamfgpgeaa.Ma
set_option linter.unusedVariables false
set_option linter.unusedSimpArgs false
theorem sortsA (m : Nat) : AnyZI.SortsIn Try.prog Try.sortedA_ren Fence.wide m :=
  ⟨fun blk off cap ss W hH hblk hsz => callsIn_wide.2 (AnyM.slices_Sort_int Try.sortA blk off cap ss W hH hblk hsz),
   fun p cap W => callsIn_wide.2 (AnyM.slices_Sort_int_none Try.sortA p cap W)⟩
set_option maxHeartbeats 1000000 in
theorem ids_at (b bm : Nat) (total : Int) (L : List Ent) (w : World) (h : LedgerAt w b bm total L) (hr : Rising L) (hlen : L.length ≤ 1000000) :
    Calls Try.prog 14 #[.pointer (some ⟨b, 0, none⟩)] w fun e w' => ∃ v, e = .returned v ∧ w'.ownsRow w.heap.size 3 1 v L.length ((L.map Prod.fst).map encZ) ∧ (v = .slice none 0 0 ↔ L = []) ∧ Below w.heap.size w w' := by
  refine (callsIn_wide (n := 6)).1 ?_
  have hown := h.2
  have hbl := hown.lt
  have hnone := none_at b bm w h.c2
  have c2 := h.c2
  have hsize : Maps.size (mk L) = L.length := mk_size L
  have hmax : Maps.size (mk L) ≤ maxLen := by rw [hsize]; unfold maxLen; omega
  have hbytes : Maps.size (mk L) * 8 ≤ 140737488355328 := by rw [hsize]; omega
  have hseq : SeqGives Fence.wide 2 Try.prog 31 #[.pointer (some ⟨w.heap.size, 0, none⟩)] encZ (fun ss => ss.Perm (intKeys (mk L))) (Maps.size (mk L)) (w.alloc (.cells #[.map (some bm)] 52)) :=
    AnyZI.keys_gives (ρ := Try.keysA_ren) { Try.keysA with } Fence.wide _ trivial rfl (by omega) w.heap.size bm L.length (mk L) _ (by simp) (by simp) (by
      obtain ⟨es, clock, hb, Ft, hs, hD⟩ := hown
      exact ⟨es, clock, (Below.heap_alloc _ _ bm hbl).trans hb, Ft, hs, hD⟩)
  have cK : ∀ mb W, CallsIn Fence.wide 5 Try.prog 25 #[.map mb] W fun e w' => e = .returned (.func (.func 31) #[] #[.pointer (some ⟨W.heap.size, 0, none⟩)]) ∧ w' = W.alloc (.cells #[.map mb] 52) := fun mb W => AnyZI.keys_in Try.keysA Fence.wide 5 trivial rfl mb W
  have cS := AnyZI.sorted_in Try.sortedA Fence.wide 5 trivial trivial trivial trivial rfl (by omega) (sortsA _) (enters_of Try.func30 (by kernel_rfl) rfl) 31 #[.pointer (some ⟨w.heap.size, 0, none⟩)] trivial (enters_of Try.func31 (by kernel_rfl) rfl) _ _ hmax hbytes _ hseq
  change CallsIn _ _ Try.prog 24 _ _ _ at cS
  have hfK : Fence.wide.fn 25 := trivial
  have hfS : Fence.wide.fn 24 := trivial
  have hfN : Fence.wide.fn 20 := trivial
  clear hseq hmax hbytes hsize
  have HO := Lib.hid hown
  have HR := Lib.hid hr
  clear hown hr h
  refine callsIn_of_wp Try.func14 rfl trivial ?_ rfl
  simp only [Try.ntmps14, List.size_toArray, List.length_cons, List.length_nil, Nat.reduceAdd, Nat.reduceSub, Array.replicate_succ, Array.replicate_zero, List.push_toArray, List.append_toArray, List.nil_append, List.cons_append]
  gi_wp2_with (first
    | (gi_at_call 20; refine (callsIn_wide.2 hnone).mono ?_; rintro e w' ⟨rfl, rfl⟩)
    | (gi_at_call 25; refine (cK _ _).mono ?_; rintro e w' ⟨rfl, rfl⟩)
    | (gi_at_call 24; refine cS.mono ?_; rintro e w' ⟨v, ss, rfl, hS, hrow, hnil, hb⟩))
  go_ret
  have hp : ss.mergeSort leI = L.map Prod.fst := by
    rw [mergeSort_of_perm_i hS, mk_keys]
    exact sorted_keys HR.out
  have hl : ss.length = L.length := by
    have := hS.length_eq
    rw [mk_keys] at this
    simpa using this
  refine ⟨v, rfl, ?_, ?_, ((Below.refl _ w).alloc (Nat.le_refl _) _).trans (hb.mono (by simp))⟩
  · have h1 := ownsRow_base_a (base' := w.heap.size) hrow (by simp)
    rw [show (ss.mergeSort (fun x y => decide (x ≤ y))) = L.map Prod.fst from hp, hl] at h1
    exact h1
  · rw [hnil, ← List.length_eq_zero_iff, hl, List.length_eq_zero_iff]
theorem ids_none (b : Nat) (w : World) (c : w.cell? ⟨b, 2, none⟩ = some (.map none)) : Calls Try.prog 14 #[.pointer (some ⟨b, 0, none⟩)] w fun e w' => e = .returned (.slice none 0 0) ∧ w = w' := by
  go_enter Try.func14, Try.ntmps14
  go_wp2_with (first | (go_at_call 20; refine (none_empty _ _ c).mono ?_; rintro e w' ⟨rfl, rfl⟩))
  go_ret
  exact ⟨rfl, rfl⟩
theorem ids_nil (w : World) : Calls Try.prog 14 #[.pointer none] w fun e w' => e = .returned (.slice none 0 0) ∧ w = w' := by
  go_enter Try.func14, Try.ntmps14
  go_wp2_with (first | (go_at_call 20; refine (none_nil _).mono ?_; rintro e w' ⟨rfl, rfl⟩))
  go_ret
  exact ⟨rfl, rfl⟩
end Go.Proofs.Ytdgjhnamfgpgeaa.Led
