/- What the scan tells of who is attached, or waits: their numbers, rising, in new memory. Condition: the scan lies as it may. -/
import Derived.Test.YtfmicncpaaioaaaSc
namespace Go.Proofs.Ytfmicncpaaioaaa.Sc
open Go.RowKit Go.Maps Go.Sort Go.Shelf
open Go.Proofs.Ytfmicncpaaioaaa.Ma
set_option linter.unusedVariables false
set_option linter.unusedSimpArgs false
theorem sortsA (m : Nat) : AnyZI.SortsIn Try.prog Try.sortedA_ren Fence.wide m :=
  ⟨fun blk off cap ss W hH hblk hsz => callsIn_wide.2 (AnyM.slices_Sort_int Try.sortA blk off cap ss W hH hblk hsz),
   fun p cap W => callsIn_wide.2 (AnyM.slices_Sort_int_none Try.sortA p cap W)⟩
theorem keys_calls (mb : Option Nat) (W : World) : Calls Try.prog 31 #[.map mb] W fun e w' => e = .returned (.func (.func 34) #[] #[.pointer (some ⟨W.heap.size, 0, none⟩)]) ∧ W.alloc (.cells #[.map mb] 45) = w' :=
  ((callsIn_wide (n := 5)).1 (AnyZI.keys_in Try.keysA Fence.wide 5 trivial rfl mb W)).mono fun _ _ ⟨he, hw⟩ => ⟨he, hw.symm⟩
theorem sorted_calls (b bm : Nat) (n at_ : Int) (L : List Ent) (w : World) (h : ScanAt w b bm n at_ L) (hok : Ok L) :
    Calls Try.prog 30 #[.func (.func 34) #[] #[.pointer (some ⟨w.heap.size, 0, none⟩)]] (w.alloc (.cells #[.map (some bm)] 45)) fun e w' => ∃ v, e = .returned v ∧ w'.ownsRow w.heap.size 3 1 v L.length ((L.map Prod.fst).map encZ) ∧ Below w.heap.size w w' := by
  have hown := h.2
  have hbl := hown.lt
  have hlen := hok.len
  have hsize : Maps.size (mk L) = L.length := mk_size L
  have hmax : Maps.size (mk L) ≤ maxLen := by rw [hsize]; unfold maxLen; omega
  have hbytes : Maps.size (mk L) * 8 ≤ 140737488355328 := by rw [hsize]; omega
  have hseq : SeqGives Fence.wide 2 Try.prog 34 #[.pointer (some ⟨w.heap.size, 0, none⟩)] encZ (fun ss => ss.Perm (intKeys (mk L))) (Maps.size (mk L)) (w.alloc (.cells #[.map (some bm)] 45)) :=
    AnyZI.keys_gives (ρ := Try.keysA_ren) { Try.keysA with } Fence.wide _ trivial rfl (by omega) w.heap.size bm L.length (mk L) _ (by simp) (by simp) (by
      obtain ⟨es, clock, hb, Ft, hs, hD⟩ := hown
      exact ⟨es, clock, (Below.heap_alloc _ _ bm hbl).trans hb, Ft, hs, hD⟩)
  have cS := AnyZI.sorted_in Try.sortedA Fence.wide 5 trivial trivial trivial trivial rfl (by omega) (sortsA _) (enters_of Try.func33 (by kernel_rfl) rfl) 34 #[.pointer (some ⟨w.heap.size, 0, none⟩)] trivial (enters_of Try.func34 (by kernel_rfl) rfl) _ _ hmax hbytes _ hseq
  change CallsIn _ _ Try.prog 30 _ _ _ at cS
  refine (callsIn_wide.1 cS).mono ?_
  rintro e w' ⟨v, ss, rfl, hS, hrow, hnil, hb⟩
  have hp : ss.mergeSort leI = L.map Prod.fst := by
    rw [mergeSort_of_perm_i hS, mk_keys]
    exact sorted_keys hok.rising
  have hl : ss.length = L.length := by
    have := hS.length_eq
    rw [mk_keys] at this
    simpa using this
  refine ⟨v, rfl, ?_, ((Below.refl _ w).alloc (Nat.le_refl _) _).trans (hb.mono (by simp))⟩
  have h1 := ownsRow_base_a (base' := w.heap.size) hrow (by simp)
  rw [show (ss.mergeSort (fun x y => decide (x ≤ y))) = L.map Prod.fst from hp, hl] at h1
  exact h1
theorem true_calls (x : Bool) (w : World) : Calls Try.prog 28 #[.bool x] w fun e w' => e = .returned (.bool true) ∧ w = w' := by
  go_enter Try.func28, Try.ntmps28
  go_wp2
  go_ret
  exact ⟨rfl, rfl⟩
theorem same_calls (x : Bool) (w : World) : Calls Try.prog 29 #[.bool x] w fun e w' => e = .returned (.bool x) ∧ w = w' := by
  go_enter Try.func29, Try.ntmps29
  go_wp2
  go_ret
  exact ⟨rfl, rfl⟩
theorem ids_cells {w : World} {base : Nat} {v : Value} {l : List Int} (h : w.ownsRow base 3 1 v l.length (l.map encZ)) :
    ∃ A c, v = .slice A l.length c ∧ l.length ≤ c ∧ l.length ≤ 9223372036854775807 ∧ ∀ j x, l[j]? = some x → ∃ g, A = some ⟨g, 0, none⟩ ∧ base ≤ g ∧ g < w.heap.size ∧ w.cell? ⟨g, j, none⟩ = some (.int .i64 x) ∧ w.frozen? ⟨g, j, none⟩ = false := by
  rcases h.2 with ⟨rfl, hn⟩ | ⟨g, cap, cur, rfl, hb, hg, hc, hm, hcs, hcur⟩
  · refine ⟨none, 0, by rw [hn], by omega, by omega, fun j p hp => ?_⟩
    have := (List.getElem?_eq_some_iff.1 hp).1
    omega
  · refine ⟨_, cap, rfl, hc, by unfold maxLen at hm; omega, fun j p hp => ⟨g, rfl, hb, lt_of_heap hg, cell_of_heap hg ?_, ?_⟩⟩
    · have hj := (List.getElem?_eq_some_iff.1 hp).1
      have e : (cur.toList.take (l.length * 1))[j]? = some (.int .i64 p) := by rw [hcur]; simp [hp]
      rw [List.getElem?_take_of_lt (by omega)] at e
      simpa using e
    · have hj := (List.getElem?_eq_some_iff.1 hp).1
      exact free_of_heap hg (by omega)
theorem info3 : (Try.prog.info? 3).map (fun i => (i.zero, i.size, i.bytes)) = some (some (.int .i64 0), 1, 8) := by kernel_rfl
theorem idsOf_snoc (all : Bool) (L : List Ent) (j : Nat) (p : Ent) (h : L[j]? = some p) : idsOf all (L.take (j + 1)) = idsOf all (L.take j) ++ (if (all || p.2) = true then [p.1] else []) := by
  unfold idsOf
  rw [List.take_add_one, h]
  simp only [Option.toList_some, List.filter_append, List.map_append, List.filter_cons, List.filter_nil]
  split <;> simp
theorem idsOf_le (all : Bool) (L : List Ent) (j : Nat) : (idsOf all (L.take j)).length ≤ j := by
  unfold idsOf
  rw [List.length_map]
  exact Nat.le_trans (List.length_filter_le _ _) (List.length_take_le _ _)
set_option maxHeartbeats 2000000 in
theorem ids_at (all : Bool) (f : Nat) (hf : ∀ (x : Bool) (w : World), Calls Try.prog f #[.bool x] w fun e w' => e = .returned (.bool (all || x)) ∧ w = w') (b bm : Nat) (n at_ : Int) (L : List Ent) (w : World) (h : ScanAt w b bm n at_ L) (hok : Ok L) (hn : 0 < n) (he : f = 28 ∨ f = 29) :
    Calls Try.prog 27 #[.pointer (some ⟨b, 0, none⟩), .func (.func f) #[] #[]] w fun e w' => ∃ v, e = .returned v ∧ w'.ownsRow w.heap.size 3 1 v (idsOf all L).length ((idsOf all L).map encZ) ∧ Below w.heap.size w w' := by
  have c0 := h.c0
  have c2 := h.c2
  have hS := sorted_calls b bm n at_ L w h hok
  have HA := Lib.hid h
  have HO := Lib.hid hok
  have hlen := hok.len
  have hb := lt_of_heap h.1
  have hbm := h.2.lt
  have HS := Lib.hid hS
  have HF := Lib.hid hf
  obtain ⟨i0, hi, hz0, hz1, hz2⟩ := info_parts info3
  clear h hok hS hf
  rcases he with rfl | rfl
  all_goals
    go_enter Try.func27, Try.ntmps27
    go_wp2_with (first | (go_at_call 24; refine (none_at _ _ _ c0 hn).mono ?_; rintro e w' ⟨rfl, rfl⟩) | (go_at_call 31; refine (keys_calls _ _).mono ?_; rintro e w' ⟨rfl, rfl⟩) | (go_at_call 30; refine HS.out.mono ?_; rintro e w1 ⟨v1, rfl, hr1, hb1⟩; obtain ⟨A, cc, rfl, hcc, hcm, hcell⟩ := ids_cells (l := L.map Prod.fst) (by rw [List.length_map]; exact hr1); rw [List.length_map] at hcc hcm; have HC := Lib.hid hcell; have HB1 := Lib.hid hb1; clear hr1 hcell hb1))
    go_loopw [5, 17] (fun s i wr => ∃ (j : Nat) (vo : Value), j ≤ L.length ∧ i = .int .i64 j ∧ s = vo ∧ wr.ownsRow w1.heap.size 3 1 vo (idsOf all (L.take j)).length ((idsOf all (L.take j)).map encZ) ∧ Below w1.heap.size w1 wr) (fun _ i _ => L.length - (intOf i).toNat)
    case atStart => exact ⟨0, .slice none 0 0, by omega, rfl, rfl, by simpa [idsOf] using World.ownsRow_nil w1 w1.heap.size 3 1, Below.refl _ _⟩
    case round =>
      obtain ⟨j, vo, hj, rfl, rfl, hrow, hbr⟩ := hrel
      have hbw : Below w.heap.size w wr := HB1.out.trans (hbr.mono HB1.out.size)
      by_cases hlt : j < L.length
      · obtain ⟨⟨x, y⟩, hx⟩ : ∃ p, L[j]? = some p := ⟨L[j], List.getElem?_eq_getElem _⟩
        obtain ⟨g, rfl, _, hg, hc, _⟩ := HC.out j x (by simp [hx])
        have q0 := (hbr.cell (p := ⟨g, j, none⟩) hg).trans hc
        have hSw := HA.out.kept (Fr.of_below hbw) (fun e => e) (fun e => e)
        have d2 := hSw.c2
        have hmem : (x, y) ∈ L := List.mem_of_getElem? hx
        have hwx : I64 x := HO.out.wf _ hmem
        have dl := hSw.look1 hwx
        rw [show Ma.look L x = y from look_mem HO.out.rising hmem] at dl
        have hsn := idsOf_snoc all L j (x, y) hx
        have hle := idsOf_le all L j
        have HSn := Lib.hid hsn
        have HBr := Lib.hid hbr
        have hfy := HF.out y
        clear hx hc hSw hmem hsn hbw hbr
        cases hall : (all || y)
        · rw [hall] at hfy
          have HFy := Lib.hid hfy
          have HAl := Lib.hid hall
          clear hfy hall
          go_wp2_with (first | (go_at_call 28; refine (HFy.out _).mono ?_; rintro e w' ⟨rfl, rfl⟩) | (go_at_call 29; refine (HFy.out _).mono ?_; rintro e w' ⟨rfl, rfl⟩))
          go_roundw
          case rel => exact ⟨j + 1, _, by omega, by go_num, rfl, by rw [HSn.out, HAl.out]; simpa using hrow, HBr.out⟩
          case measure => simp [intOf]; omega
        · rw [hall] at hfy
          have HFy := Lib.hid hfy
          have HAl := Lib.hid hall
          clear hfy hall
          go_wp2_with (first | (go_at_call 28; refine (HFy.out _).mono ?_; rintro e w' ⟨rfl, rfl⟩) | (go_at_call 29; refine (HFy.out _).mono ?_; rintro e w' ⟨rfl, rfl⟩) | (at_builtin; refine wpList_append_own_at _ rfl _ _ 36 rfl w1.heap.size 3 i0 _ 1 8 Try.underlying36 hi hz0 hz1 hz2 rfl (by omega) _ _ _ rfl (hrow.alloc _) ⟨wr.heap.size, 0, none⟩ 1 1 [.int .i64 x] rfl rfl (cell_one_new _ _ _) (by simp [Value.oneCell']) (by unfold maxLen; omega) (by omega) (by have := HBr.out.size; simp; omega) ?_; intro vo' w2 hown2 hgrow2 hnil2 hloc2))
          go_roundw
          case rel =>
            refine ⟨j + 1, _, by omega, by go_num, rfl, ?_, ?_⟩
            · rw [HSn.out, HAl.out]
              simpa using hown2
            · exact (HBr.out.alloc HBr.out.size _).grown hgrow2 (by have := HBr.out.size; simp; omega) (fun k hk => (hrow.lt k hk).1)
          case measure => simp [intOf]; omega
      · obtain rfl : j = L.length := by omega
        rw [List.take_length] at hrow
        have HR := Lib.hid (ownsRow_base_a (base' := w.heap.size) hrow HB1.out.size)
        have HBw := Lib.hid hbw
        clear hrow hbw
        go_wp2
        go_ret
        exact ⟨_, rfl, HR.out, HBw.out⟩
theorem attached_at (b bm : Nat) (n at_ : Int) (L : List Ent) (w : World) (h : ScanAt w b bm n at_ L) (hok : Ok L) (hn : 0 < n) :
    Calls Try.prog 19 #[.pointer (some ⟨b, 0, none⟩)] w fun e w' => ∃ v, e = .returned v ∧ w'.ownsRow w.heap.size 3 1 v (idsOf true L).length ((idsOf true L).map encZ) ∧ Below w.heap.size w w' := by
  have H := Lib.hid (ids_at true 28 (fun x w => true_calls x w) b bm n at_ L w h hok hn (.inl rfl))
  go_enter Try.func19, Try.ntmps19
  go_wp2_with (go_at_call 27; refine H.out.mono ?_; rintro e w1 ⟨v, rfl, hr, hb⟩)
  go_ret
  exact ⟨v, rfl, hr, hb⟩
theorem waiting_at (b bm : Nat) (n at_ : Int) (L : List Ent) (w : World) (h : ScanAt w b bm n at_ L) (hok : Ok L) (hn : 0 < n) :
    Calls Try.prog 20 #[.pointer (some ⟨b, 0, none⟩)] w fun e w' => ∃ v, e = .returned v ∧ w'.ownsRow w.heap.size 3 1 v (idsOf false L).length ((idsOf false L).map encZ) ∧ Below w.heap.size w w' := by
  have H := Lib.hid (ids_at false 29 (fun x w => same_calls x w) b bm n at_ L w h hok hn (.inr rfl))
  go_enter Try.func20, Try.ntmps20
  go_wp2_with (go_at_call 27; refine H.out.mono ?_; rintro e w1 ⟨v, rfl, hr, hb⟩)
  go_ret
  exact ⟨v, rfl, hr, hb⟩
theorem ids_none (f : Nat) (p : Option Addr) (w : World) (h : IsNone w p) : Calls Try.prog 27 #[.pointer p, .func (.func f) #[] #[]] w fun e w' => e = .returned (.slice none 0 0) ∧ w = w' := by
  go_enter Try.func27, Try.ntmps27
  go_wp2_with (go_at_call 24; refine (none_true _ _ h).mono ?_; rintro e w' ⟨rfl, rfl⟩)
  go_ret
  exact ⟨rfl, rfl⟩
theorem attached_none (p : Option Addr) (w : World) (h : IsNone w p) : Calls Try.prog 19 #[.pointer p] w fun e w' => e = .returned (.slice none 0 0) ∧ w = w' := by
  go_enter Try.func19, Try.ntmps19
  go_wp2_with (go_at_call 27; refine (ids_none _ _ _ h).mono ?_; rintro e w' ⟨rfl, rfl⟩)
  go_ret
  exact ⟨rfl, rfl⟩
theorem waiting_none (p : Option Addr) (w : World) (h : IsNone w p) : Calls Try.prog 20 #[.pointer p] w fun e w' => e = .returned (.slice none 0 0) ∧ w = w' := by
  go_enter Try.func20, Try.ntmps20
  go_wp2_with (go_at_call 27; refine (ids_none _ _ _ h).mono ?_; rintro e w' ⟨rfl, rfl⟩)
  go_ret
  exact ⟨rfl, rfl⟩
end Go.Proofs.Ytfmicncpaaioaaa.Sc
