/- The document's set. Conditions: those that the theorem names. -/
import Derived.Test.YtnpdnnaemfdinaaRfr
namespace Go.Proofs.Ytnpdnnaemfdinaa.F
open Go.RowKit Go.Maps Go.Sort Go.Shelf
open Go.Proofs.Ytnpdnnaemfdinaa.Ma
set_option linter.unusedVariables false
set_option linter.unusedSimpArgs false
theorem info82 : (Try.prog.info? 82).map (fun i => (i.zero, i.size, i.bytes)) = some (some (.agg #[.string ⟨#[]⟩, .slice none 0 0]), 2, 40) := by kernel_rfl
theorem encR_one (x : Rn) : ∀ u ∈ encR x, Value.oneCell' u = true := by
  intro u hu
  simp [encR] at hu
  rcases hu with rfl | rfl <;> rfl
section
variable {w : World} {ops : Array Oper} {rest : List Oper} {o : Oper} {a : Act} {Q : Exit → Act → World → Prop}
theorem wp_appR (hgd : o.guard = none) (s x : Operand) (ho : o.op = .call { callee := .builtin .append, args := #[s, x], argTypes := #[49, 49] })
    (B : Nat) (L : List Rn) (y : Rn) (R : List Rn) (hR : L ++ [y] = R) (v : Value) (hs : a.eval s = v) (hown : w.ownsRow B 82 2 v L.length (cellsK encR L))
    (b : Nat) (hx : a.eval x = .slice (some ⟨b, 0, none⟩) 1 1) (hb : w.heap[b]? = some (.cells #[.string y.name, .slice y.adr y.ps.length y.cap] 82 (0, 0))) (hlen : R.length ≤ 1000000) (hB : B ≤ w.heap.size)
    (h : ∀ A' c' w', w'.ownsRow B 82 2 (.slice A' R.length c') R.length (cellsK encR R) → Fr (fun k => v.ownBlock = some k) w w' → wpList Try.prog ops Q rest (a.put o.dst (.slice A' R.length c')) w') : wpList Try.prog ops Q (o :: rest) a w := by
  obtain ⟨i0, hi, hz0, hz1, hz2⟩ := info_parts info82
  subst hR
  rw [List.length_append] at hlen
  refine wpList_append_own_at _ hgd s x 49 ho B 82 i0 _ 2 40 Try.underlying49 hi hz0 hz1 hz2 rfl (by decide) v L.length (cellsK encR L) hs hown ⟨b, 0, none⟩ 1 1 (encR y) hx rfl (World.news_of_block hb) (encR_one y) (by unfold maxLen; simp at hlen; omega) (by simp at hlen; omega) hB ?_
  intro v' w' hr hg _ _
  have e : cellsK encR L ++ encR y = cellsK encR (L ++ [y]) := by rw [cellsK_append, cellsK_one]
  rw [e, show L.length + 1 = (L ++ [y]).length by simp] at hr
  obtain ⟨A', c', rfl, _, _⟩ := row_open encR_len hr
  exact h A' c' w' hr (Fr.of_grownR hg)
end
theorem set_end {X : Nat → Prop} {w wl : World} {r : Nat} {room left : Int} {L R : List Rn} {A A' : Option Addr} {c c' : Nat} (hbox : X r) (hb : Below w.heap.size w wl)
    (h1 : w.heap[r]? = some (.cells #[.int .i64 room, .int .i64 left, .slice A L.length c] 51 (0, 0))) (hR : ∀ x ∈ R, Lies encS 1 w x.adr x.ps ∧ In X r x.adr)
    (hrow : wl.ownsRow w.heap.size 82 2 (.slice A' R.length c') R.length (cellsK encR R)) {D : List De} (hD : dr R = D) :
    RfX (Xw X w (wl.setCell ⟨r, 2, none⟩ (.slice A' R.length c'))) (wl.setCell ⟨r, 2, none⟩ (.slice A' R.length c')) r room left D ∧ Fr (fun k => k = r) w (wl.setCell ⟨r, 2, none⟩ (.slice A' R.length c')) := by
  have hf := Fr.setCell wl ⟨r, 2, none⟩ (.slice A' R.length c')
  have hr := lt_of_heap h1
  have hbase : ∀ g o, A' = some ⟨g, o, none⟩ → w.heap.size ≤ g ∧ g < wl.heap.size := fun g o e => by
    have hg : (Value.slice A' R.length c').ownBlock = some g := by subst e; rfl
    exact ⟨own_base hrow hg, (own_lt hrow hg).1⟩
  refine ⟨⟨⟨R, A', c', hD, ?_, (row_lies encR_len hrow).fr hf (fun g o e k => by have := (hbase g o e).1; have k' : g = r := k; omega), fun g o e => ⟨.inr ⟨(hbase g o e).1, Nat.lt_of_lt_of_le (hbase g o e).2 hf.size⟩, by have := (hbase g o e).1; omega⟩, fun x hx => ⟨((hR x hx).1.below hb (Nat.le_refl _)).fr hf (fun g o e => ((hR x hx).2 g o e).2), fun g o e => ⟨.inl ((hR x hx).2 g o e).1, ((hR x hx).2 g o e).2⟩⟩⟩, .inl hbox⟩, ((Fr.of_below hb).mono (fun _ e => e.elim)).trans hf⟩
  rw [heap_setCell_at ((hb.block r hr).trans h1)]
  rfl
theorem setF_nil (s : ByteArray) (y : Rn) : setF s y true [] = [] ∧ setF s y false [] = [y] := ⟨rfl, rfl⟩
theorem setF_t (s : ByteArray) (y z : Rn) (r : List Rn) : setF s y true (z :: r) = if z.name = s then setF s y true r else z :: setF s y true r := by
  rw [setF]
theorem setF_f (s : ByteArray) (y z : Rn) (r : List Rn) : setF s y false (z :: r) = if Op.bytesLess z.name.toList s.toList = true then z :: setF s y false r else y :: (if z.name = s then setF s y true r else z :: setF s y true r) := by
  rw [setF]
theorem drop_at {L : List Rn} {k : Nat} {z : Rn} (hz : L[k]? = some z) : L.drop k = z :: L.drop (k + 1) := by
  have hlt := (List.getElem?_eq_some_iff.1 hz).1
  rw [List.drop_eq_getElem_cons hlt]
  congr 1
  exact Option.some.inj ((List.getElem?_eq_getElem hlt).symm.trans hz)
set_option maxRecDepth 100000 in
set_option maxHeartbeats 4000000 in
theorem set_at {X : Nat → Prop} {w : World} {r : Nat} {room left : Int} {D : List De} (y : Rn) (h : RfX X w r room left D) (hrise : D.Pairwise fun p q => nm p.1 < nm q.1) (hn : D.length ≤ 4096) (hy : Lies encS 1 w y.adr y.ps) (hyX : In X r y.adr) :
    Calls Try.prog 57 #[.pointer (some ⟨r, 0, none⟩), .string y.name, .slice y.adr y.ps.length y.cap] w fun e w' => e = .returned (.tuple #[]) ∧ RfX (Xw X w w') w' r room left (setD y.name y.ps D) ∧ Fr (fun k => k = r) w w' := by
  have hbox := h.box
  have hf2 := h.f2
  have hrl := h.lt
  obtain ⟨L, A, c, rfl, h1, h2, h3, h4⟩ := h.ex
  have hL : L.length ≤ 4096 := by simpa [dr] using hn
  have hset := setF_set (s := y.name) (y := y) rfl hrise
  obtain ⟨R, hR⟩ : ∃ R, setF y.name y (decide (y.ps = [])) L = R := ⟨_, rfl⟩
  have hRm : ∀ x ∈ R, Lies encS 1 w x.adr x.ps ∧ In X r x.adr := fun x hx => by
    rw [← hR] at hx
    rcases setF_mem hx with rfl | hx
    · exact ⟨hy, hyX⟩
    · exact h4 x hx
  have hRl : R.length ≤ 4097 := by rw [← hR]; have := setF_len y.name y (decide (y.ps = [])) L; omega
  rw [hR] at hset
  have H1 := Lib.hid h1
  have H2 := Lib.hid h2
  have HEND := Lib.hid (fun (wl : World) (A' : Option Addr) (c' : Nat) (hb : Below w.heap.size w wl) (hrow : wl.ownsRow w.heap.size 82 2 (.slice A' R.length c') R.length (cellsK encR R)) => set_end hbox hb h1 hRm hrow hset)
  have HL := Lib.hid hL
  have HRL := Lib.hid hRl
  have HLT := Lib.hid hrl
  have HF2 := Lib.hid hf2
  obtain ⟨d0, hd0⟩ : ∃ d, decide (y.ps = []) = d := ⟨_, rfl⟩
  rw [hd0] at hR
  have HR := Lib.hid hR
  obtain ⟨s, hs⟩ : ∃ s, y.name = s := ⟨_, rfl⟩
  obtain ⟨n, hn0⟩ : ∃ n, y.ps.length = n := ⟨_, rfl⟩
  obtain ⟨ya, hya⟩ : ∃ a, y.adr = a := ⟨_, rfl⟩
  obtain ⟨yc, hyc⟩ : ∃ a, y.cap = a := ⟨_, rfl⟩
  have e0 : ((n : Int) == 0) = d0 := by
    rw [← hd0, ← hn0]
    cases y.ps with
    | nil => rfl
    | cons a l => simp; omega
  rw [hs] at HR ⊢
  rw [hn0, hya, hyc]
  have HY := Lib.hid (And.intro hs (And.intro hn0 (And.intro hya hyc)))
  clear h h1 h2 h3 h4 hL hset hR hRm hRl hbox hf2 hrl hd0 hs hn0 hya hyc hrise hn hy hyX
  go_enter Try.func57, Try.ntmps57
  go_wp2
  go_loopw [6, 7, 8] (fun l d i wi => ∃ (k : Nat) (O : List Rn) (A' : Option Addr) (c' : Nat) (q : Bool), k ≤ L.length ∧ i = .int .i64 k ∧ d = .bool q ∧ l = .slice A' O.length c' ∧ O ++ setF s y q (L.drop k) = R ∧ wi.ownsRow w.heap.size 82 2 (.slice A' O.length c') O.length (cellsK encR O) ∧ Below w.heap.size w wi) (fun _ _ i _ => L.length - (intOf i).toNat)
  case atStart => exact ⟨0, [], none, 0, d0, by omega, rfl, rfl, rfl, by simpa using HR.out, World.ownsRow_nil _ _ _ _, Below.refl _ _⟩
  case round =>
    obtain ⟨k, O, A', c', q, hk, rfl, rfl, rfl, hO, hrow, hb⟩ := hrel
    have hL := HL.out
    have HB := Lib.hid hb
    have HROW := Lib.hid hrow
    have c2 := cell_of_heap (i := 2) ((hb.block r HLT.out).trans H1.out) rfl
    have hOl : O.length ≤ 4097 := by have h5 := HRL.out; rw [← hO, List.length_append] at h5; omega
    by_cases hlt : k < L.length
    · obtain ⟨z, hz⟩ : ∃ z, L[k]? = some z := ⟨_, List.getElem?_eq_getElem hlt⟩
      obtain ⟨g, o, e, _, q0, q1⟩ := lies_r (H2.out.below hb (Nat.le_refl _)) hz
      subst e
      rw [drop_at hz] at hO
      have HZ := Lib.hid hz
      have i1 : (k : Int) < (L.length : Int) := by omega
      have i2 : (k : Int) < 4096 := by omega
      obtain ⟨zn, za, zc, zps⟩ := z
      dsimp only at q0 q1
      have hz1 : ∃ R1, O ++ [⟨zn, za, zc, zps⟩] = R1 := ⟨_, rfl⟩
      obtain ⟨R1, hR1⟩ := hz1
      have HR1 := Lib.hid hR1
      have HR1L := Lib.hid (show R1.length ≤ 4098 by rw [← hR1, List.length_append]; simp; omega)
      clear hz hb hrow
      cases q with
      | true =>
        rw [setF_t] at hO
        dsimp only at hO
        by_cases he : zn = s
        · rw [if_pos he] at hO
          have e3 : (zn.toList == s.toList) = true := by rw [he]; exact beq_self_eq_true _
          have HO := Lib.hid hO
          clear hO he hR1
          go_wp2
          go_roundw
          case rel => exact ⟨k + 1, O, A', c', true, by omega, by go_num, rfl, rfl, HO.out, HROW.out, HB.out⟩
          case measure => simp [intOf]; omega
        · rw [if_neg he] at hO
          have e3 : (zn.toList == s.toList) = false := by
            rw [ByteArray.toList_eq, ByteArray.toList_eq, beq_eq_false_iff_ne]
            exact fun e => he (nm_inj e)
          have HO := Lib.hid (show R1 ++ setF s y true (L.drop (k + 1)) = R by rw [← hR1, List.append_assoc]; exact hO)
          clear hO he hR1
          go_wp2_with (at_builtin; refine wp_appR rfl _ _ rfl w.heap.size O ⟨zn, za, zc, zps⟩ R1 HR1.out _ rfl ((HROW.out).alloc _) wr.heap.size rfl (heap_alloc_new wr _) (by have := HR1L.out; omega) (Nat.le_trans HB.out.size (by simp)) ?_; intro A7 c7 w7 hr7 hf7; have HR7 := Lib.hid hr7; have HB7 := Lib.hid ((HB.out.alloc HB.out.size _).trans (hf7.below (Nat.le_trans HB.out.size (by simp)) (fun i e => own_base HROW.out e))); clear hr7 hf7)
          go_roundw
          case rel => exact ⟨k + 1, R1, A7, c7, true, by omega, by go_num, rfl, rfl, HO.out, HR7.out, HB7.out⟩
          case measure => simp [intOf]; omega
      | false =>
        rw [setF_f] at hO
        dsimp only at hO
        by_cases hls : Op.bytesLess zn.toList s.toList = true
        · rw [if_pos hls] at hO
          have e3 : (zn.toList == s.toList) = false := by
            rw [ByteArray.toList_eq, ByteArray.toList_eq, beq_eq_false_iff_ne]
            intro e
            have := (bl_iff _ _).1 hls
            rw [show nm zn = nm s from e] at this
            exact List.lt_irrefl _ this
          have HO := Lib.hid (show R1 ++ setF s y false (L.drop (k + 1)) = R by rw [← hR1, List.append_assoc]; exact hO)
          clear hO hR1
          go_wp2_with (at_builtin; refine wp_appR rfl _ _ rfl w.heap.size O ⟨zn, za, zc, zps⟩ R1 HR1.out _ rfl ((HROW.out).alloc _) wr.heap.size rfl (heap_alloc_new wr _) (by have := HR1L.out; omega) (Nat.le_trans HB.out.size (by simp)) ?_; intro A7 c7 w7 hr7 hf7; have HR7 := Lib.hid hr7; have HB7 := Lib.hid ((HB.out.alloc HB.out.size _).trans (hf7.below (Nat.le_trans HB.out.size (by simp)) (fun i e => own_base HROW.out e))); clear hr7 hf7)
          go_roundw
          case rel => exact ⟨k + 1, R1, A7, c7, false, by omega, by go_num, rfl, rfl, HO.out, HR7.out, HB7.out⟩
          case measure => simp [intOf]; omega
        · have hls2 : Op.bytesLess zn.toList s.toList = false := by simpa using hls
          rw [if_neg hls] at hO
          obtain ⟨R2, hR2⟩ : ∃ R2, O ++ [y] = R2 := ⟨_, rfl⟩
          have HR2 := Lib.hid hR2
          have HR2L := Lib.hid (show R2.length ≤ 4098 by rw [← hR2, List.length_append]; simp; omega)
          by_cases he : zn = s
          · rw [if_pos he] at hO
            have e3 : (zn.toList == s.toList) = true := by rw [he]; exact beq_self_eq_true _
            have HO := Lib.hid (show R2 ++ setF s y true (L.drop (k + 1)) = R by rw [← hR2, List.append_assoc]; exact hO)
            clear hO he hR1 hR2 hls
            go_wp2_with (at_builtin; refine wp_appR rfl _ _ rfl w.heap.size O y R2 HR2.out _ rfl ((HROW.out).alloc _) wr.heap.size rfl (by rw [HY.out.1, HY.out.2.1, HY.out.2.2.1, HY.out.2.2.2]; exact heap_alloc_new wr _) (by have := HR2L.out; omega) (Nat.le_trans HB.out.size (by simp)) ?_; intro A7 c7 w7 hr7 hf7; have HR7 := Lib.hid hr7; have HB7 := Lib.hid ((HB.out.alloc HB.out.size _).trans (hf7.below (Nat.le_trans HB.out.size (by simp)) (fun i e => own_base HROW.out e))); clear hr7 hf7; obtain ⟨g8, o8, e8, _, s0, s1⟩ := lies_r (H2.out.below HB7.out (Nat.le_refl _)) HZ.out; cases e8; have s2 := cell_of_heap (i := 2) ((HB7.out.block r HLT.out).trans H1.out) rfl)
            go_roundw
            case rel => exact ⟨k + 1, R2, A7, c7, true, by omega, by go_num, rfl, rfl, HO.out, HR7.out, HB7.out⟩
            case measure => simp [intOf]; omega
          · rw [if_neg he] at hO
            have e3 : (zn.toList == s.toList) = false := by
              rw [ByteArray.toList_eq, ByteArray.toList_eq, beq_eq_false_iff_ne]
              exact fun e => he (nm_inj e)
            obtain ⟨R3, hR3⟩ : ∃ R3, R2 ++ [⟨zn, za, zc, zps⟩] = R3 := ⟨_, rfl⟩
            have HR3 := Lib.hid hR3
            have HR3L := Lib.hid (show R3.length ≤ 4100 by have := HR2L.out; rw [← hR3, List.length_append]; simp; omega)
            have HO := Lib.hid (show R3 ++ setF s y true (L.drop (k + 1)) = R by rw [← hR3, ← hR2, List.append_assoc, List.append_assoc]; exact hO)
            clear hO he hR1 hR2 hR3 hls
            go_wp2_with (first
              | (at_builtin; refine wp_appR rfl _ _ rfl w.heap.size R2 ⟨zn, za, zc, zps⟩ R3 HR3.out _ rfl ((HR7.out).alloc _) w7.heap.size rfl (heap_alloc_new w7 _) (by have := HR3L.out; omega) (Nat.le_trans HB7.out.size (by simp)) ?_; intro A9 c9 w9 hr9 hf9; have HR9 := Lib.hid hr9; have HB9 := Lib.hid ((HB7.out.alloc HB7.out.size _).trans (hf9.below (Nat.le_trans HB7.out.size (by simp)) (fun i e => own_base HR7.out e))); clear hr9 hf9)
              | (at_builtin; refine wp_appR rfl _ _ rfl w.heap.size O y R2 HR2.out _ rfl ((HROW.out).alloc _) wr.heap.size rfl (by rw [HY.out.1, HY.out.2.1, HY.out.2.2.1, HY.out.2.2.2]; exact heap_alloc_new wr _) (by have := HR2L.out; omega) (Nat.le_trans HB.out.size (by simp)) ?_; intro A7 c7 w7 hr7 hf7; have HR7 := Lib.hid hr7; have HB7 := Lib.hid ((HB.out.alloc HB.out.size _).trans (hf7.below (Nat.le_trans HB.out.size (by simp)) (fun i e => own_base HROW.out e))); clear hr7 hf7; obtain ⟨g8, o8, e8, _, s0, s1⟩ := lies_r (H2.out.below HB7.out (Nat.le_refl _)) HZ.out; cases e8; have s2 := cell_of_heap (i := 2) ((HB7.out.block r HLT.out).trans H1.out) rfl))
            go_roundw
            case rel => exact ⟨k + 1, R3, A9, c9, true, by omega, by go_num, rfl, rfl, HO.out, HR9.out, HB9.out⟩
            case measure => simp [intOf]; omega
    · obtain rfl : k = L.length := by omega
      rw [List.drop_length] at hO
      have cf := (Fr.of_below hb).frozen HF2.out HLT.out (fun e => e)
      cases q with
      | true =>
        rw [(setF_nil s y).1, List.append_nil] at hO
        subst hO
        have HE := Lib.hid (HEND.out wr A' c' hb hrow)
        clear hb hrow
        go_wp2
        go_end0
        have hE := HE.out
        rw [HY.out.1] at hE
        exact ⟨rfl, hE⟩
      | false =>
        rw [(setF_nil s y).2] at hO
        have HO := Lib.hid hO
        clear hb hrow hO
        go_wp2_with (at_builtin; refine wp_appR rfl _ _ rfl w.heap.size O y R HO.out _ rfl ((HROW.out).alloc _) wr.heap.size rfl (by rw [HY.out.1, HY.out.2.1, HY.out.2.2.1, HY.out.2.2.2]; exact heap_alloc_new wr _) (by have := HRL.out; omega) (Nat.le_trans HB.out.size (by simp)) ?_; intro A7 c7 w7 hr7 hf7; have HR7 := Lib.hid hr7; have HB7 := Lib.hid ((HB.out.alloc HB.out.size _).trans (hf7.below (Nat.le_trans HB.out.size (by simp)) (fun i e => own_base HROW.out e))); clear hr7 hf7; have HE := Lib.hid (HEND.out w7 A7 c7 HB7.out HR7.out); have s2 := cell_of_heap (i := 2) ((HB7.out.block r HLT.out).trans H1.out) rfl; have cf2 := (Fr.of_below HB7.out).frozen HF2.out HLT.out (fun e => e))
        go_end0
        have hE := HE.out
        rw [HY.out.1] at hE
        exact ⟨rfl, hE⟩
end Go.Proofs.Ytnpdnnaemfdinaa.F
