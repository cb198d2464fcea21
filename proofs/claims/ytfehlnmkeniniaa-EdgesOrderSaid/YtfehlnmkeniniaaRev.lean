/- The program's Reverse; both Outs, walked. Conditions: the list lies readable. -/
import Derived.Test.YtfehlnmkeniniaaRef
namespace Go.Proofs.Ytfehlnmkeniniaa.E
open Go.RowKit Go.Sort Go.Shelf
open Go.Proofs.Ytfehlnmkeniniaa.Ma
set_option linter.unusedVariables false
set_option linter.unusedSimpArgs false
theorem info3 : (Try.prog.info? 3).map (fun i => (i.zero, i.size, i.bytes)) = some (some (.int .i64 0), 1, 8) := by kernel_rfl
theorem cells_one1 {L : List Int} : ∀ u ∈ cellsK encI L, u.oneCell' = true := by
  intro u hu
  simp only [cellsK, List.mem_flatMap] at hu
  obtain ⟨p, _, hp⟩ := hu
  simp [encI] at hp
  subst hp
  rfl
section
variable {w : World} {ops : Array Oper} {rest : List Oper} {o : Oper} {a : Act} {Q : Exit → Act → World → Prop}
/-- append of one number, just built, to a row of the call's own. -/
theorem wp_appI (hgd : o.guard = none) (s x : Operand) (ho : o.op = .call { callee := .builtin .append, args := #[s, x], argTypes := #[29, 29] })
    (B : Nat) (L : List Int) (y : Int) (R : List Int) (hR : L ++ [y] = R) (v : Value) (hs : a.eval s = v) (hown : w.ownsRow B 3 1 v L.length (cellsK encI L))
    (b : Nat) (hx : a.eval x = .slice (some ⟨b, 0, none⟩) 1 1) (hb : w.heap[b]? = some (.cells #[.int .i64 y] 3 (0, 0))) (hlen : R.length ≤ 2000000) (hB : B ≤ w.heap.size)
    (h : ∀ A' c' w', w'.ownsRow B 3 1 (.slice A' R.length c') R.length (cellsK encI R) → Fr (fun k => v.ownBlock = some k) w w' → wpList Try.prog ops Q rest (a.put o.dst (.slice A' R.length c')) w') : wpList Try.prog ops Q (o :: rest) a w := by
  obtain ⟨i0, hi, hz0, hz1, hz2⟩ := info_parts info3
  subst hR
  rw [List.length_append] at hlen
  refine wpList_append_own_at _ hgd s x 29 ho B 3 i0 _ 1 8 Try.underlying29 hi hz0 hz1 hz2 rfl (by decide) v L.length (cellsK encI L) hs hown ⟨b, 0, none⟩ 1 1 [.int .i64 y] hx rfl (World.news_of_block hb) (by simp [Value.oneCell']) (by unfold maxLen; simp at hlen; omega) (by simp at hlen; omega) hB ?_
  intro v' w' hr hg _ _
  have e : cellsK encI L ++ [Value.int .i64 y] = cellsK encI (L ++ [y]) := by rw [cellsK_append, cellsK_one]
  rw [e, show L.length + 1 = (L ++ [y]).length by simp] at hr
  obtain ⟨A', c', rfl, _, _⟩ := row_open encI_len hr
  exact h A' c' w' hr (Fr.of_grownR hg)
end
theorem rev_take {L : List Ed} {k : Nat} {x1 x2 : Int} (h : L[k]? = some (x1, x2)) : (L.take k).map swp ++ [(x2, x1)] = (L.take (k + 1)).map swp := by
  rw [take_snoc h, List.map_append]
  rfl
theorem out_take {L : List Ed} {k : Nat} {x1 x2 v : Int} (h : L[k]? = some (x1, x2)) : outL (L.take (k + 1)) v = if x1 = v then outL (L.take k) v ++ [x2] else outL (L.take k) v := by
  rw [take_snoc h]
  unfold outL
  rw [List.filter_append, List.map_append]
  by_cases e : x1 = v
  · rw [if_pos e]; simp [e]
  · rw [if_neg e]; simp [e]
theorem out_len (L : List Ed) (v : Int) : (outL L v).length ≤ L.length := by
  unfold outL
  rw [List.length_map]
  exact List.length_filter_le _ _
set_option maxRecDepth 100000 in
set_option maxHeartbeats 4000000 in
theorem reverse_at (A : Option Addr) (c : Nat) (L : List Ed) (w : World) (hL : Lies enc2 2 w A L) (hlen : L.length ≤ 500000) :
    Calls Try.prog 16 #[.slice A L.length c] w fun e w' => ∃ A' c', e = .returned (.slice A' L.length c') ∧ w'.ownsRow w.heap.size 24 2 (.slice A' L.length c') L.length (cellsK enc2 (rvs L)) ∧ Below w.heap.size w w' := by
  have HL := Lib.hid hL
  have HLen := Lib.hid hlen
  obtain ⟨i0, hi, hz0, hz1, hz2⟩ := info_parts info24
  clear hL
  go_enter Try.func16, Try.ntmps16
  go_wp2_with (at_make; refine wpList_make_own _ rfl _ _ 22 rfl w.heap.size 24 i0 _ 2 Try.underlying22 hi hz0 hz1 .i64 .i64 _ L.length rfl rfl rfl (by rw [hz2]; omega) (by unfold maxLen; omega) (Nat.le_refl _) ?_; intro w0 hown0 hgrow0)
  have HB0 := Lib.hid ((Fr.of_grownR hgrow0).below (Nat.le_refl _) (fun i e => by cases e))
  have HO0 := Lib.hid hown0
  clear hown0 hgrow0
  go_loopw [3, 11] (fun s i wr => ∃ (k : Nat) (A' : Option Addr) (c' : Nat) (K : List Ed), k ≤ L.length ∧ i = .int .i64 k ∧ s = .slice A' K.length c' ∧ K = (L.take k).map swp ∧ wr.ownsRow w.heap.size 24 2 (.slice A' K.length c') K.length (cellsK enc2 K) ∧ Below w.heap.size w wr) (fun _ i _ => L.length - (intOf i).toNat)
  case atStart => exact ⟨0, some ⟨w.heap.size, 0, none⟩, L.length, [], by omega, rfl, rfl, rfl, HO0.out, HB0.out⟩
  case round =>
    obtain ⟨k, A', c', K, hk, rfl, rfl, hK, hr, hb⟩ := hrel
    have HK := Lib.hid hK
    have HR := Lib.hid hr
    have HB := Lib.hid hb
    clear hK hr hb
    by_cases hlt : k < L.length
    · obtain ⟨⟨x1, x2⟩, hx⟩ : ∃ p, L[k]? = some p := ⟨L[k], List.getElem?_eq_getElem _⟩
      obtain ⟨g, o, rfl, hg, q0, q1⟩ := lies2 (HL.out.below HB.out (Nat.le_refl _)) hx
      have i1 : (k : Int) < (L.length : Int) := by omega
      obtain ⟨R, hR⟩ : ∃ R, K ++ [(x2, x1)] = R := ⟨_, rfl⟩
      have H1 := Lib.hid hR
      have HRe := Lib.hid (show R = (L.take (k + 1)).map swp by rw [← hR, HK.out, rev_take hx])
      have HRl := Lib.hid (show R.length ≤ 2000000 by rw [HRe.out, List.length_map, List.length_take]; omega)
      obtain ⟨W, hW, gW, hbl, hsz, _⟩ := boxed2 wr x1 x2 24
      have s0 := cell_of_heap (i := 0) gW rfl
      have s1 := cell_of_heap (i := 1) gW rfl
      have HBW := Lib.hid (HB.out.trans (hbl.mono HB.out.size))
      have HRW := Lib.hid (below_row HR.out hbl)
      clear hx hg hR gW hbl hsz
      go_wp2_with (at_builtin; refine wp_app rfl _ _ rfl w.heap.size K [(x2, x1)] R H1.out (.slice A' K.length c') rfl (HRW.out.alloc _) ⟨W.heap.size, 0, none⟩ 1 1 rfl rfl (news_one (heap_alloc_new W _)) HRl.out (Nat.le_trans HBW.out.size (by simp)) ?_; intro A2 c2 w2 hr2 hf2; have HO2 := Lib.hid hr2; have HB2 := Lib.hid ((HBW.out.alloc HBW.out.size (.cells #[.int .i64 x2, .int .i64 x1] 24)).trans (hf2.below (Nat.le_trans HBW.out.size (by simp)) (fun i e => (HRW.out.lt i e).1))); clear hr2 hf2)
      go_roundw
      case rel => exact ⟨k + 1, _, _, R, by omega, by go_num, rfl, HRe.out, HO2.out, HB2.out⟩
      case measure => simp [intOf]; omega
    · obtain rfl : k = L.length := by omega
      rw [List.take_length] at HK
      have hKl := Lib.hid (show K.length = L.length by rw [HK.out, List.length_map])
      have HKm := Lib.hid (show K.length ≤ 1000000 by rw [hKl.out]; omega)
      go_wp2_with (go_at_call 29; refine (sort_row _ _ K _ HR.out HKm.out).mono ?_; rintro e w2 ⟨rfl, M, hp, ho, hr2, hf⟩; have HP := Lib.hid hp; have HO := Lib.hid ho; have HR2 := Lib.hid hr2; have HF := Lib.hid hf; clear hp ho hr2 hf)
      go_ret
      have e := rvs_eq (HK.out ▸ HP.out) HO.out
      rw [hKl.out]
      exact ⟨_, _, rfl, by have := HR2.out; rw [hKl.out, e] at this; exact this, HB.out.trans (HF.out.below HB.out.size (fun i e => (HR.out.lt i e).1))⟩
set_option maxRecDepth 100000 in
set_option maxHeartbeats 4000000 in
theorem out_at (A : Option Addr) (c : Nat) (v : Int) (L : List Ed) (w : World) (hL : Lies enc2 2 w A L) (hlen : L.length ≤ 500000) :
    Calls Try.prog 14 #[.slice A L.length c, .int .i64 v] w fun e w' => ∃ A' c', e = .returned (.slice A' (outL L v).length c') ∧ w'.ownsRow w.heap.size 3 1 (.slice A' (outL L v).length c') (outL L v).length (cellsK encI (outL L v)) ∧ Below w.heap.size w w' := by
  have HL := Lib.hid hL
  have HLen := Lib.hid hlen
  clear hL
  go_enter Try.func14, Try.ntmps14
  go_wp2
  go_loopw [5, 10] (fun s i wr => ∃ (k : Nat) (A' : Option Addr) (c' : Nat) (K : List Int), k ≤ L.length ∧ i = .int .i64 k ∧ s = .slice A' K.length c' ∧ K = outL (L.take k) v ∧ wr.ownsRow w.heap.size 3 1 (.slice A' K.length c') K.length (cellsK encI K) ∧ Below w.heap.size w wr) (fun _ i _ => L.length - (intOf i).toNat)
  case atStart => exact ⟨0, none, 0, [], by omega, rfl, rfl, rfl, World.ownsRow_nil _ _ _ _, Below.refl _ _⟩
  case round =>
    obtain ⟨k, A', c', K, hk, rfl, rfl, hK, hr, hb⟩ := hrel
    have HK := Lib.hid hK
    have HR := Lib.hid hr
    have HB := Lib.hid hb
    clear hK hr hb
    by_cases hlt : k < L.length
    · obtain ⟨⟨x1, x2⟩, hx⟩ : ∃ p, L[k]? = some p := ⟨L[k], List.getElem?_eq_getElem _⟩
      obtain ⟨g, o, rfl, hg, q0, q1⟩ := lies2 (HL.out.below HB.out (Nat.le_refl _)) hx
      have i1 : (k : Int) < (L.length : Int) := by omega
      have HO := out_take (v := v) hx
      obtain ⟨W, hW, gW, hbl, hsz, _⟩ := boxed2 wr x1 x2 24
      have s0 := cell_of_heap (i := 0) gW rfl
      have s1 := cell_of_heap (i := 1) gW rfl
      have HBW := Lib.hid (HB.out.trans (hbl.mono HB.out.size))
      have HRW := Lib.hid ((Fr.of_below hbl).row HR.out (fun _ _ e => e))
      by_cases he : x1 = v
      · rw [if_pos he] at HO
        have e1 : (x1 == v) = true := by simpa using he
        obtain ⟨R, hR⟩ : ∃ R, K ++ [x2] = R := ⟨_, rfl⟩
        have H1 := Lib.hid hR
        have HRe := Lib.hid (show R = outL (L.take (k + 1)) v by rw [← hR, HK.out, HO])
        have HRl := Lib.hid (show R.length ≤ 2000000 by have := out_len (L.take (k + 1)) v; rw [HRe.out]; rw [List.length_take] at this; omega)
        clear hx hg hR gW hbl hsz he HO
        go_wp2_with (at_builtin; refine wp_appI rfl _ _ rfl w.heap.size K x2 R H1.out (.slice A' K.length c') rfl (HRW.out.alloc _) W.heap.size rfl (heap_alloc_new W _) HRl.out (Nat.le_trans HBW.out.size (by simp)) ?_; intro A2 c2 w2 hr2 hf2; have HO2 := Lib.hid hr2; have HB2 := Lib.hid ((HBW.out.alloc HBW.out.size (.cells #[.int .i64 x2] 3)).trans (hf2.below (Nat.le_trans HBW.out.size (by simp)) (fun i e => (HRW.out.lt i e).1))); clear hr2 hf2)
        go_roundw
        case rel => exact ⟨k + 1, _, _, R, by omega, by go_num, rfl, HRe.out, HO2.out, HB2.out⟩
        case measure => simp [intOf]; omega
      · rw [if_neg he] at HO
        have e1 : (x1 == v) = false := by simpa using he
        have HRe := Lib.hid (show K = outL (L.take (k + 1)) v by rw [HK.out, HO])
        clear hx hg gW hbl hsz he HO
        go_wp2
        go_roundw
        case rel => exact ⟨k + 1, _, _, K, by omega, by go_num, rfl, HRe.out, HRW.out, HBW.out⟩
        case measure => simp [intOf]; omega
    · obtain rfl : k = L.length := by omega
      rw [List.take_length] at HK
      go_wp2
      go_ret
      rw [← HK.out]
      exact ⟨_, _, rfl, HR.out, HB.out⟩
set_option maxRecDepth 100000 in
set_option maxHeartbeats 4000000 in
theorem refout_at (A : Option Addr) (c : Nat) (v : Int) (L : List Ed) (w : World) (hL : Lies enc2 2 w A L) (hlen : L.length ≤ 500000) :
    Calls Try.prog 15 #[.slice A L.length c, .int .i64 v] w fun e w' => ∃ A' c', e = .returned (.slice A' (outL L v).length c') ∧ w'.ownsRow w.heap.size 3 1 (.slice A' (outL L v).length c') (outL L v).length (cellsK encI (outL L v)) ∧ Below w.heap.size w w' := by
  have HL := Lib.hid hL
  have HLen := Lib.hid hlen
  clear hL
  go_enter Try.func15, Try.ntmps15
  go_wp2
  go_loopw [5, 6] (fun s i wr => ∃ (k : Nat) (A' : Option Addr) (c' : Nat) (K : List Int), k ≤ L.length ∧ i = .int .i64 k ∧ s = .slice A' K.length c' ∧ K = outL (L.take k) v ∧ wr.ownsRow w.heap.size 3 1 (.slice A' K.length c') K.length (cellsK encI K) ∧ Below w.heap.size w wr) (fun _ i _ => L.length - (intOf i).toNat)
  case atStart => exact ⟨0, none, 0, [], by omega, rfl, rfl, rfl, World.ownsRow_nil _ _ _ _, Below.refl _ _⟩
  case round =>
    obtain ⟨k, A', c', K, hk, rfl, rfl, hK, hr, hb⟩ := hrel
    have HK := Lib.hid hK
    have HR := Lib.hid hr
    have HB := Lib.hid hb
    clear hK hr hb
    by_cases hlt : k < L.length
    · obtain ⟨⟨x1, x2⟩, hx⟩ : ∃ p, L[k]? = some p := ⟨L[k], List.getElem?_eq_getElem _⟩
      obtain ⟨g, o, rfl, hg, q0, q1⟩ := lies2 (HL.out.below HB.out (Nat.le_refl _)) hx
      have i1 : (k : Int) < (L.length : Int) := by omega
      have HO := out_take (v := v) hx
      by_cases he : x1 = v
      · rw [if_pos he] at HO
        have e1 : (x1 == v) = true := by simpa using he
        obtain ⟨R, hR⟩ : ∃ R, K ++ [x2] = R := ⟨_, rfl⟩
        have H1 := Lib.hid hR
        have HRe := Lib.hid (show R = outL (L.take (k + 1)) v by rw [← hR, HK.out, HO])
        have HRl := Lib.hid (show R.length ≤ 2000000 by have := out_len (L.take (k + 1)) v; rw [HRe.out]; rw [List.length_take] at this; omega)
        clear hx hg hR he HO
        go_wp2_with (at_builtin; refine wp_appI rfl _ _ rfl w.heap.size K x2 R H1.out (.slice A' K.length c') rfl (HR.out.alloc _) wr.heap.size rfl (heap_alloc_new wr _) HRl.out (Nat.le_trans HB.out.size (by simp)) ?_; intro A2 c2 w2 hr2 hf2; have HO2 := Lib.hid hr2; have HB2 := Lib.hid ((HB.out.alloc HB.out.size (.cells #[.int .i64 x2] 3)).trans (hf2.below (Nat.le_trans HB.out.size (by simp)) (fun i e => (HR.out.lt i e).1))); clear hr2 hf2)
        go_roundw
        case rel => exact ⟨k + 1, _, _, R, by omega, by go_num, rfl, HRe.out, HO2.out, HB2.out⟩
        case measure => simp [intOf]; omega
      · rw [if_neg he] at HO
        have e1 : (x1 == v) = false := by simpa using he
        have HRe := Lib.hid (show K = outL (L.take (k + 1)) v by rw [HK.out, HO])
        clear hx hg he HO
        go_wp2
        go_roundw
        case rel => exact ⟨k + 1, _, _, K, by omega, by go_num, rfl, HRe.out, HR.out, HB.out⟩
        case measure => simp [intOf]; omega
    · obtain rfl : k = L.length := by omega
      rw [List.take_length] at HK
      go_wp2
      go_ret
      rw [← HK.out]
      exact ⟨_, _, rfl, HR.out, HB.out⟩
end Go.Proofs.Ytfehlnmkeniniaa.E
