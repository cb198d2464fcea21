/- all: the pages of all files but one. Conditions: those that each theorem names. -/
import Derived.Test.YtnpdnnaemfdinaaTxs
namespace Go.Proofs.Ytnpdnnaemfdinaa.F
open Go.RowKit Go.Maps Go.Sort Go.Shelf
open Go.Proofs.Ytnpdnnaemfdinaa.Ma
set_option linter.unusedVariables false
set_option linter.unusedSimpArgs false
section
variable {w : World} {ops : Array Oper} {rest : List Oper} {o : Oper} {a : Act} {Q : Exit → Act → World → Prop}
theorem wp_app2 (hgd : o.guard = none) (s x : Operand) (ho : o.op = .call { callee := .builtin .append, args := #[s, x], argTypes := #[28, 28] })
    (B : Nat) (L : List ByteArray) (y z : ByteArray) (R : List ByteArray) (hR : L ++ [y, z] = R) (v : Value) (hs : a.eval s = v) (hown : w.ownsRow B 9 1 v L.length (L.map Value.string))
    (b : Nat) (hx : a.eval x = .slice (some ⟨b, 0, none⟩) 2 2) (hb : w.heap[b]? = some (.cells #[.string y, .string z] 9 (0, 0))) (hlen : R.length ≤ 1000000) (hB : B ≤ w.heap.size)
    (h : ∀ A' c' w', w'.ownsRow B 9 1 (.slice A' R.length c') R.length (R.map Value.string) → Fr (fun k => v.ownBlock = some k) w w' → wpList Try.prog ops Q rest (a.put o.dst (.slice A' R.length c')) w') : wpList Try.prog ops Q (o :: rest) a w := by
  obtain ⟨i0, hi, hz0, hz1, hz2⟩ := info_parts info9
  subst hR
  rw [List.length_append] at hlen
  refine wpList_append_own_at _ hgd s x 28 ho B 9 i0 _ 1 16 Try.underlying28 hi hz0 hz1 hz2 rfl (by decide) v L.length (L.map Value.string) hs hown ⟨b, 0, none⟩ 2 2 [.string y, .string z] hx rfl (World.news_of_block hb) (by simp [Value.oneCell']) (by unfold maxLen; simp at hlen; omega) (by simp at hlen; omega) hB ?_
  intro v' w' hr hg _ _
  have e : L.map Value.string ++ [Value.string y, Value.string z] = (L ++ [y, z]).map Value.string := by simp
  rw [e, show L.length + 2 = (L ++ [y, z]).length by simp] at hr
  obtain ⟨A', c', rfl, _, _⟩ := row_open encS_len (by rw [← cellsS] at hr; exact hr)
  exact h A' c' w' hr (Fr.of_grownR hg)
end
def pairsF (s : ByteArray) (P : List ByteArray) : List ByteArray := P.flatMap fun x => [s, x]
def allF (D : List De) (but : ByteArray) : List ByteArray := D.flatMap fun p => if p.1 = but then [] else pairsF p.1 p.2
theorem pairs_len (s : ByteArray) (P : List ByteArray) : (pairsF s P).length = 2 * P.length := by
  unfold pairsF
  induction P with
  | nil => rfl
  | cons y r ih => rw [List.flatMap_cons, List.length_append, ih]; simp; omega
theorem all_len (D : List De) (but : ByteArray) : (allF D but).length ≤ 2 * pagesD D := by
  unfold allF pagesD
  induction D with
  | nil => simp
  | cons y r ih =>
    rw [List.flatMap_cons, List.length_append, List.map_cons, List.sum_cons]
    have : (if y.1 = but then [] else pairsF y.1 y.2 : List ByteArray).length ≤ 2 * y.2.length := by
      split
      · simp
      · rw [pairs_len]; omega
    omega
theorem all_take {D : List De} {but : ByteArray} {i : Nat} {p : De} (h : D[i]? = some p) : allF (D.take (i + 1)) but = allF (D.take i) but ++ (if p.1 = but then [] else pairsF p.1 p.2) := by
  unfold allF
  rw [List.take_add_one, h, List.flatMap_append]
  simp
theorem pairs_take {s x : ByteArray} {P : List ByteArray} {k : Nat} (h : P[k]? = some x) : pairsF s (P.take (k + 1)) = pairsF s (P.take k) ++ [s, x] := by
  unfold pairsF
  rw [List.take_add_one, h, List.flatMap_append]
  simp
theorem pagesD_take {D : List De} {k : Nat} {p : De} (h : D[k]? = some p) : pagesD (D.take (k + 1)) = pagesD (D.take k) + p.2.length := by
  unfold pagesD
  rw [List.take_add_one, h, List.map_append, List.sum_append]
  simp
theorem pagesD_le (D : List De) (k : Nat) : pagesD (D.take k) ≤ pagesD D := by
  unfold pagesD
  have : D.map (fun p => p.2.length) = (D.take k).map (fun p => p.2.length) ++ (D.drop k).map (fun p => p.2.length) := by rw [← List.map_append, List.take_append_drop]
  rw [this, List.sum_append]
  omega
theorem FsAt.keep {S : Nat → Prop} {B : Nat} {w w' : World} {b bm : Nat} {room left : Int} {L : List En} (h : FsAt B w b bm room left L) (hf : Fr S w w') (hb : ¬ S b) (hm : ¬ S bm) (hr : ∀ p ∈ L, ∀ g, p.2.1.ownBlock = some g → ¬ S g) : FsAt B w' b bm room left L :=
  ⟨hf.keep h.blk hb, hf.map h.own hm, fun p hp => ⟨hf.row (h.rows p hp).1 (hr p hp), (h.rows p hp).2⟩, h.apart, h.rise, h.at_, h.small, h.names, h.full⟩
theorem read_ok {L : List En} {i k : Nat} {p : En} {x : ByteArray} {left : Int} (hr : Rising L) (hp : L[i]? = some p) (hx : p.2.2[k]? = some x) (hl : 0 < left) : readF left L p.1 k = (x, 0, left - 1) := by
  have e := look_at hr hp
  have hk := (List.getElem?_eq_some_iff.1 hx).1
  have ht : thereC L p.1 k = 0 := by unfold thereC; rw [e, if_pos ⟨by omega, by omega⟩]
  unfold readF
  rw [if_neg (by rw [ht]; decide), if_neg (by omega), if_neg (by omega), e, Int.toNat_natCast]
  simp [List.getD, hx]
/-- What is kept away, and all that is new. -/
abbrev Xw (X : Nat → Prop) (w w' : World) : Nat → Prop := fun k => X k ∨ (w.heap.size ≤ k ∧ k < w'.heap.size)
set_option maxRecDepth 100000 in
set_option maxHeartbeats 2000000 in
theorem all_at {X : Nat → Prop} {w : World} {b bm : Nat} {room left : Int} {D : List De} (but : ByteArray) (h : FsX X w b bm room left D) :
    Calls Try.prog 33 #[.pointer (some ⟨b, 0, none⟩), .string but] w fun e w' => ∃ A c, e = .returned (.slice A (allF D but).length c) ∧ w'.ownsRow w.heap.size 9 1 (.slice A (allF D but).length c) (allF D but).length ((allF D but).map Value.string) ∧ (∃ left', 1099511623680 ≤ left' ∧ left' ≤ 1099511627776 ∧ FsX (Xw X w w') w' b bm room left' D) ∧ Fr (fun k => ¬ X k) w w' := by
  have HX := Lib.hid h
  obtain ⟨L, h1, h2, rfl⟩ := h.ex
  have H1 := Lib.hid h1
  have H2 := Lib.hid h2
  have hcnt := h1.count
  have hsm : pagesD (dn L) ≤ 4096 := h.small
  clear h h1 h2
  go_enter Try.func33, Try.ntmps33
  go_wp2_with (first
    | (go_at_call 13; refine (fail_at 1099511627776 (by decide) H1.out).mono ?_; rintro e w1 ⟨rfl, h3, hf3⟩; have H3 := Lib.hid h3; have F3 := Lib.hid hf3; clear h3 hf3)
    | (go_at_call 24; refine (names_at H3.out).mono ?_; rintro e w2 ⟨v, rfl, hr, _, hb⟩; have HR := Lib.hid hr; have HB := Lib.hid hb; obtain ⟨A, c, rfl, _, _⟩ := row_open encS_len hr; clear hr hb))
  have H4 := Lib.hid (H3.out.below HB.out)
  have hbw : b < w.heap.size := H1.out.lt
  have hbmw : bm < w.heap.size := H1.out.own.lt
  have hw2 : w.heap.size ≤ w2.heap.size := Nat.le_trans F3.out.size HB.out.size
  have HNM := Lib.hid (show Lies encS 1 w2 A (L.map (·.1)) from by
    have := HR.out
    have e : (L.map (·.1)).length = L.length := by simp
    rw [← e, show L.map (fun p => Value.string p.1) = cellsK encS (L.map (·.1)) by rw [cellsS]; simp] at this
    exact row_lies encS_len this)
  have HRB := Lib.hid (fun g (hg : (Value.slice A L.length c).ownBlock = some g) => own_base HR.out hg)
  have HNB := Lib.hid (fun (wi : World) (hf : Fr (fun k => k = b) w2 wi) => HNM.out.fr hf (fun g o e => by
    have h5 := HRB.out g (by
      have : (Value.slice A L.length c).ownBlock = A.map (·.block) := by cases A <;> rfl
      rw [this, e]
      rfl)
    have := F3.out.size
    omega))
  go_loopw [5, 7] (fun s i wi => ∃ (k : Nat) (left : Int) (O : List ByteArray) (A5 : Option Addr) (c5 : Nat), k ≤ L.length ∧ i = .int .i64 k ∧ s = .slice A5 O.length c5 ∧ O = allF ((dn L).take k) but ∧ wi.ownsRow w2.heap.size 9 1 (.slice A5 O.length c5) O.length (O.map Value.string) ∧ FsAt 0 wi b bm room left L ∧ 1099511627776 - pagesD ((dn L).take k) ≤ left ∧ left ≤ 1099511627776 ∧ Fr (fun k => k = b) w2 wi) (fun _ i _ => L.length - (intOf i).toNat)
  case atStart => exact ⟨0, 1099511627776, [], none, 0, by omega, rfl, rfl, rfl, World.ownsRow_nil _ _ _ _, H4.out, by simp [pagesD], by omega, Fr.refl _ _⟩
  case round =>
    obtain ⟨k, left, O, A5, c5, hk, rfl, rfl, hO, hrow, hfs, hl1, hl2, hfr⟩ := hrel
    have HO := Lib.hid hO
    have HROW := Lib.hid hrow
    have HFS := Lib.hid hfs
    have HFR := Lib.hid hfr
    have HL := Lib.hid (And.intro hl1 hl2)
    clear hO hrow hfs hfr hl1 hl2
    by_cases hlt : k < L.length
    · obtain ⟨p, hp⟩ : ∃ p, L[k]? = some p := ⟨L[k], List.getElem?_eq_getElem _⟩
      obtain ⟨g, o, e, _, q0⟩ := lies_s (HNB.out wr HFR.out) (j := k) (y := p.1) (by rw [List.getElem?_map, hp]; rfl)
      subst e
      have hpd : (dn L)[k]? = some (p.1, p.2.2) := by unfold dn; rw [List.getElem?_map, hp]; rfl
      have hmem := List.mem_of_getElem? hp
      have HMEM := Lib.hid hmem
      have HP := Lib.hid hp
      have HPD := Lib.hid hpd
      have hns := name_size (H1.out.names p hmem)
      have HNS := Lib.hid hns
      have hm4 : p.2.2.length ≤ 4096 := by
        have := (H1.out.found p.1).2
        rw [look_at H1.out.rise hp] at this
        exact this
      obtain ⟨s, hs⟩ : ∃ s, p.1 = s := ⟨_, rfl⟩
      obtain ⟨m, hm⟩ : ∃ m, p.2.2.length = m := ⟨_, rfl⟩
      rw [hs] at q0
      rw [hm] at hm4
      have HS := Lib.hid hs
      have HM := Lib.hid hm
      have i1 : (k : Int) < (L.length : Int) := by omega
      have hlm : (L.map (·.1)).length = L.length := by simp
      clear hp hpd hmem hns hs hm
      simp only [List.length_map] at *
      by_cases hbut : s = but
      · subst hbut
        go_wp2
        go_loop [5, 8] (fun so t => so = .slice A5 O.length c5 ∧ t = .int .i64 0) (fun _ _ => 0)
        case atStart => exact ⟨rfl, rfl⟩
        case round =>
          obtain ⟨rfl, rfl⟩ := hrel
          go_wp2
          go_roundw
          case rel =>
            refine ⟨k + 1, left, O, A5, c5, by omega, by go_num, rfl, ?_, HROW.out, HFS.out, ?_, HL.out.2, HFR.out⟩
            · rw [all_take HPD.out, HO.out]
              dsimp only
              rw [if_pos HS.out, List.append_nil]
            · have := HL.out.1
              rw [pagesD_take HPD.out]
              omega
          case measure => simp [intOf]; omega
      · have HBUT := Lib.hid hbut
        have e3 : (s.toList == but.toList) = false := by
          rw [ByteArray.toList_eq, ByteArray.toList_eq, beq_eq_false_iff_ne]
          exact fun e => hbut (nm_inj e)
        clear hbut
        go_wp2
        go_loopw [5, 8] (fun so q wi => ∃ (t : Nat) (left : Int) (O : List ByteArray) (A5 : Option Addr) (c5 : Nat), t ≤ m ∧ q = .int .i64 t ∧ so = .slice A5 O.length c5 ∧ O = allF ((dn L).take k) but ++ pairsF s (p.2.2.take t) ∧ wi.ownsRow w2.heap.size 9 1 (.slice A5 O.length c5) O.length (O.map Value.string) ∧ FsAt 0 wi b bm room left L ∧ 1099511627776 - pagesD ((dn L).take k) - t ≤ left ∧ left ≤ 1099511627776 ∧ Fr (fun k => k = b) w2 wi) (fun _ q _ => m - (intOf q).toNat)
        case atStart => exact ⟨0, left, O, A5, c5, by omega, rfl, rfl, by rw [HO.out]; simp [pairsF], HROW.out, HFS.out, by have := HL.out.1; omega, HL.out.2, HFR.out⟩
        case round =>
          obtain ⟨t, left, O, A5, c5, ht, rfl, rfl, hO, hrow, hfs, hl1, hl2, hfr⟩ := hrel
          have HO2 := Lib.hid hO
          have HROW2 := Lib.hid hrow
          have HFS2 := Lib.hid hfs
          have HFR2 := Lib.hid hfr
          have HL2 := Lib.hid (And.intro hl1 hl2)
          obtain ⟨g', o', e', hgl, q0'⟩ := lies_s (HNB.out wr hfr) (j := k) (y := p.1) (by rw [List.getElem?_map, HP.out]; rfl)
          rw [HS.out] at q0'
          cases e'
          clear hO hrow hfs hfr hl1 hl2
          have hnss : s.size ≤ maxLen := by rw [← HS.out]; exact HNS.out
          have HNSS := Lib.hid hnss
          clear hnss
          have HPG := Lib.hid (pages_at s HNSS.out HFS2.out)
          have hlk : (F.look L s).2.length = m := by rw [← HS.out, look_at H1.out.rise HP.out]; exact HM.out
          rw [hlk] at HPG
          clear hlk
          by_cases htm : t < m
          · have i2 : (t : Int) < (m : Int) := by omega
            obtain ⟨x, hx⟩ : ∃ x, p.2.2[t]? = some x := ⟨_, List.getElem?_eq_getElem (by have := HM.out; omega)⟩
            have hpos : 0 < left := by
              have := HL2.out.1
              have := pagesD_le (dn L) k
              omega
            have hro := read_ok H1.out.rise HP.out hx hpos
            rw [HS.out] at hro
            have HRD := Lib.hid (read_at s t HNSS.out HFS2.out ⟨by omega, by have := HL2.out.2; omega⟩)
            rw [hro] at HRD
            have HXT := Lib.hid hx
            obtain ⟨R, hR⟩ : ∃ R, O ++ [s, x] = R := ⟨_, rfl⟩
            have HRR := Lib.hid hR
            have hRl : R.length ≤ 1000000 := by
              have h1 := all_len ((dn L).take k) but
              have h2 := pagesD_le (dn L) k
              have h3 : (pairsF s (p.2.2.take t)).length ≤ 2 * 4096 := by
                rw [pairs_len, List.length_take, HM.out]
                omega
              rw [← hR, HO2.out, List.length_append, List.length_append]
              simp
              omega
            have hgb : ¬ g = b := by
              have h5 := HRB.out g rfl
              have := F3.out.size
              omega
            have HGB := Lib.hid hgb
            have HGL := Lib.hid hgl
            have HRW6 := Lib.hid (fun (W : World) (hf : Fr (fun k => k = b) wr W) => hf.row HROW2.out (fun g hg e => by have := own_base HROW2.out hg; omega))
            clear hx hpos hro hR hgb hgl
            go_wp2_with (first
              | (go_at_call 26; refine HPG.out.mono ?_; rintro e w' ⟨rfl, rfl⟩)
              | (go_at_call 14; refine HRD.out.mono ?_; rintro e w4 ⟨rfl, h6, hf6⟩; have H6 := Lib.hid h6; have F6 := Lib.hid hf6; have qn := hf6.cell q0' HGL.out HGB.out; clear h6 hf6)
              | (at_builtin; refine wp_app2 rfl _ _ rfl w2.heap.size O s x R HRR.out (.slice A5 O.length c5) rfl ((HRW6.out w4 F6.out).alloc _) w4.heap.size rfl (heap_alloc_new w4 _) hRl (Nat.le_trans HFR2.out.size (Nat.le_trans F6.out.size (by simp))) ?_; intro A7 c7 w7 hr7 hf7))
            go_roundw
            case rel =>
              refine ⟨t + 1, left - 1, R, A7, c7, by omega, by go_num, rfl, ?_, hr7, ?_, ?_, ?_, ?_⟩
              · rw [pairs_take HXT.out, ← List.append_assoc, ← HO2.out, HRR.out]
              · have hF := H6.out.below ((Below.refl _ _).alloc (Nat.le_refl _) (.cells #[.string s, .string x] 9 (0, 0)))
                refine hF.keep hf7 (fun e => ?_) (fun e => ?_) (fun p hp g hg e => ?_)
                · have := own_base HROW2.out e; omega
                · have := own_base HROW2.out e; omega
                · have := own_base HROW2.out e
                  have := (own_lt (H1.out.rows p hp).1 hg).1
                  omega
              · have := HL2.out.1; omega
              · have := HL2.out.2; omega
              · exact ((HFR2.out.trans F6.out).trans ((Fr.alloc w4 _).mono (fun _ e => e.elim))).step hf7 (fun i e => .inr (own_base HROW2.out e))
            case measure => simp [intOf]; omega
          · obtain rfl : t = m := by omega
            go_wp2_with (go_at_call 26; refine HPG.out.mono ?_; rintro e w' ⟨rfl, rfl⟩)
            go_roundw
            case rel =>
              refine ⟨k + 1, left, O, A5, c5, by omega, by go_num, rfl, ?_, HROW2.out, HFS2.out, ?_, HL2.out.2, HFR2.out⟩
              · rw [all_take HPD.out, HO2.out]
                dsimp only
                rw [if_neg (by rw [HS.out]; exact HBUT.out), HS.out, List.take_of_length_le (l := p.2.2) (by rw [HM.out]; omega)]
              · have := HL2.out.1
                rw [pagesD_take HPD.out]
                have e5 : (p.1, p.2.2).2.length = t := HM.out
                omega
            case measure => simp [intOf]; omega
    · obtain rfl : k = L.length := by omega
      go_wp2
      go_ret
      have e1 : O = allF (dn L) but := by rw [HO.out, List.take_of_length_le (l := dn L) (by simp [dn])]
      subst e1
      have hfw : Fr (fun k => k = b) w wr := F3.out.trans (((Fr.of_below HB.out).mono (fun _ e => e.elim)).trans HFR.out)
      refine ⟨A5, c5, rfl, row_base HROW.out hw2, ⟨left, (by have h3 := HL.out.1; have h5 := pagesD_le (dn L) L.length; omega), HL.out.2, ⟨L, HFS.out, fun p hp g hg hx => ?_, rfl⟩, ?_, ?_, fun k hk => ?_, HX.out.rm, ?_⟩, fr_b HX.out hfw⟩
      · rcases hx with hx | hx
        · exact H2.out p hp g hg hx
        · have := (own_lt (H1.out.rows p hp).1 hg).1
          omega
      · rintro (hx | hx)
        · exact HX.out.nb hx
        · omega
      · rintro (hx | hx)
        · exact HX.out.nbm hx
        · omega
      · rcases hk with hk | hk
        · exact Nat.lt_of_lt_of_le (HX.out.low k hk) hfw.size
        · exact hk.2
      · have h3 := HL.out.1
        have h4 := HL.out.2
        have h5 := pagesD_le (dn L) L.length
        omega
end Go.Proofs.Ytnpdnnaemfdinaa.F
