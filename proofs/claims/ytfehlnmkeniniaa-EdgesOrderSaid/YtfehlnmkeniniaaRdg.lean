/- The document's Degrees, walked. Conditions: the list lies readable. -/
import Derived.Test.YtfehlnmkeniniaaDeg
namespace Go.Proofs.Ytfehlnmkeniniaa.E
open Go.RowKit Go.Sort Go.Shelf
open Go.Proofs.Ytfehlnmkeniniaa.Ma
set_option linter.unusedVariables false
set_option linter.unusedSimpArgs false
theorem dO_succ (k : Nat) (L : List Ed) : dO k L ++ [degO L k] = dO (k + 1) L := by
  unfold dO
  rw [List.range_succ, List.map_append]
  rfl
theorem dI_succ (k : Nat) (L : List Ed) : dI k L ++ [degI L k] = dI (k + 1) L := by
  unfold dI
  rw [List.range_succ, List.map_append]
  rfl
theorem degO_take {L : List Ed} {j : Nat} {x1 x2 v : Int} (h : L[j]? = some (x1, x2)) : degO (L.take (j + 1)) v = if x1 = v then degO (L.take j) v + 1 else degO (L.take j) v := by
  rw [take_snoc h, degO_snoc]
  dsimp only
  split <;> omega
theorem degI_take {L : List Ed} {j : Nat} {x1 x2 v : Int} (h : L[j]? = some (x1, x2)) : degI (L.take (j + 1)) v = if x2 = v then degI (L.take j) v + 1 else degI (L.take j) v := by
  rw [take_snoc h, degI_snoc]
  dsimp only
  split <;> omega
section
variable {w : World} {ops : Array Oper} {rest : List Oper} {o : Oper} {a : Act} {Q : Exit → Act → World → Prop}
theorem wp_appJ (hgd : o.guard = none) (s x : Operand) (ho : o.op = .call { callee := .builtin .append, args := #[s, x], argTypes := #[29, 29] })
    (B : Nat) (L : List Int) (y : Int) (R : List Int) (hR : L ++ [y] = R) (v : Value) (hs : a.eval s = v) (hown : w.ownsRow B 3 1 v L.length (cellsK encI L))
    (b : Nat) (hx : a.eval x = .slice (some ⟨b, 0, none⟩) 1 1) (hb : w.heap[b]? = some (.cells #[.int .i64 y] 3 (0, 0))) (hlen : R.length ≤ 2000000) (hB : B ≤ w.heap.size)
    (h : ∀ A' c' w', w'.ownsRow B 3 1 (.slice A' R.length c') R.length (cellsK encI R) → Fr (fun k => v.ownBlock = some k) w w' → (∀ g, (Value.slice A' R.length c').ownBlock = some g → v.ownBlock = some g ∨ w.heap.size ≤ g) → wpList Try.prog ops Q rest (a.put o.dst (.slice A' R.length c')) w') : wpList Try.prog ops Q (o :: rest) a w := by
  obtain ⟨i0, hi, hz0, hz1, hz2⟩ := info_parts info3
  subst hR
  rw [List.length_append] at hlen
  refine wpList_append_own_at _ hgd s x 29 ho B 3 i0 _ 1 8 Try.underlying29 hi hz0 hz1 hz2 rfl (by decide) v L.length (cellsK encI L) hs hown ⟨b, 0, none⟩ 1 1 [.int .i64 y] hx rfl (World.news_of_block hb) (by simp [Value.oneCell']) (by unfold maxLen; simp at hlen; omega) (by simp at hlen; omega) hB ?_
  intro v' w' hr hg _ hl
  have e : cellsK encI L ++ [Value.int .i64 y] = cellsK encI (L ++ [y]) := by rw [cellsK_append, cellsK_one]
  rw [e, show L.length + 1 = (L ++ [y]).length by simp] at hr
  obtain ⟨A', c', rfl, _, _⟩ := row_open encI_len hr
  refine h A' c' w' hr (Fr.of_grownR hg) fun g hg => ?_
  rcases hl with e | e
  · exact .inl (e ▸ hg)
  · rw [e] at hg
    exact .inr (by cases hg; exact Nat.le_refl _)
end
set_option maxRecDepth 100000 in
set_option maxHeartbeats 4000000 in
theorem refdeg_at (A : Option Addr) (c : Nat) (n : Int) (L : List Ed) (w : World) (hL : Lies enc2 2 w A L) (hlen : L.length ≤ 500000) :
    Calls Try.prog 12 #[.int .i64 n, .slice A L.length c] w fun e w' => ∃ A1 c1 A2 c2, e = .returned (.tuple #[.slice A1 (degC n L).1.length c1, .slice A2 (degC n L).2.length c2]) ∧ w'.ownsRow w.heap.size 3 1 (.slice A1 (degC n L).1.length c1) (degC n L).1.length (cellsK encI (degC n L).1) ∧ w'.ownsRow w.heap.size 3 1 (.slice A2 (degC n L).2.length c2) (degC n L).2.length (cellsK encI (degC n L).2) ∧ Below w.heap.size w w' := by
  have HL := Lib.hid hL
  have HLen := Lib.hid hlen
  clear hL
  by_cases h1 : n < 1
  · have hd : degC n L = ([], []) := by unfold degC; rw [if_neg (by omega)]
    rw [hd]
    clear hd
    go_enter Try.func12, Try.ntmps12
    go_wp2
    exact bodyPost_ret (v := .tuple #[.slice none 0 0, .slice none 0 0]) (by simp [results, Try.results12, go_sem]) rfl ⟨_, _, _, _, rfl, World.ownsRow_nil _ _ _ _, World.ownsRow_nil _ _ _ _, Below.refl _ _⟩
  by_cases h2 : 256 < n
  · have hd : degC n L = ([], []) := by unfold degC; rw [if_neg (by omega)]
    rw [hd]
    clear hd
    go_enter Try.func12, Try.ntmps12
    go_wp2
    exact bodyPost_ret (v := .tuple #[.slice none 0 0, .slice none 0 0]) (by simp [results, Try.results12, go_sem]) rfl ⟨_, _, _, _, rfl, World.ownsRow_nil _ _ _ _, World.ownsRow_nil _ _ _ _, Below.refl _ _⟩
  obtain ⟨N, rfl⟩ : ∃ N : Nat, n = (N : Int) := ⟨n.toNat, by omega⟩
  have hN : N ≤ 256 := by omega
  have hd : degC (N : Int) L = (dO N L, dI N L) := by unfold degC; rw [if_pos (by omega)]; rfl
  rw [hd]
  clear hd
  go_enter Try.func12, Try.ntmps12
  go_wp2
  clear h1 h2
  go_loopw [6, 7, 8] (fun s t i wr => ∃ (k : Nat) (A1 : Option Addr) (c1 : Nat) (A2 : Option Addr) (c2 : Nat) (D E : List Int), k ≤ N ∧ i = .int .i64 k ∧ s = .slice A1 D.length c1 ∧ t = .slice A2 E.length c2 ∧ D = dO k L ∧ E = dI k L ∧ wr.ownsRow w.heap.size 3 1 (.slice A1 D.length c1) D.length (cellsK encI D) ∧ wr.ownsRow w.heap.size 3 1 (.slice A2 E.length c2) E.length (cellsK encI E) ∧ (∀ g, (Value.slice A1 D.length c1).ownBlock = some g → (Value.slice A2 E.length c2).ownBlock ≠ some g) ∧ Below w.heap.size w wr) (fun _ _ i _ => N - (intOf i).toNat)
  case atStart => exact ⟨0, none, 0, none, 0, [], [], by omega, rfl, rfl, rfl, rfl, rfl, World.ownsRow_nil _ _ _ _, World.ownsRow_nil _ _ _ _, (fun g hg => by cases hg), Below.refl _ _⟩
  case round =>
    obtain ⟨k, A1, c1, A2, c2, D, E, hk, rfl, rfl, rfl, hD, hE, hr1, hr2, hne, hb⟩ := hrel
    have HD := Lib.hid hD
    have HE := Lib.hid hE
    have HR1 := Lib.hid hr1
    have HR2 := Lib.hid hr2
    have HNE := Lib.hid hne
    have HB := Lib.hid hb
    clear hD hE hr1 hr2 hne hb
    by_cases hlt : k < N
    · have i0 : (k : Int) < (N : Int) := by omega
      have HDl := Lib.hid (show D.length = k by rw [HD.out, dO_len])
      have HEl := Lib.hid (show E.length = k by rw [HE.out, dI_len])
      have HLw := Lib.hid (HL.out.below HB.out (Nat.le_refl _))
      go_wp2
      go_loopw [9, 10, 11] (fun a b i wi => ∃ (j : Nat) (d1 d2 : Int), j ≤ L.length ∧ i = .int .i64 j ∧ a = .int .i64 d1 ∧ b = .int .i64 d2 ∧ d1 = degO (L.take j) k ∧ d2 = degI (L.take j) k ∧ wi = wr) (fun _ _ i _ => L.length - (intOf i).toNat)
      case atStart => exact ⟨0, 0, 0, by omega, rfl, rfl, rfl, rfl, rfl, rfl⟩
      case round =>
        obtain ⟨j, d1, d2, hj, rfl, rfl, rfl, hd1, hd2, rfl⟩ := hrel
        have bd1 : 0 ≤ d1 ∧ d1 ≤ 500000 := by have := degO_le (L.take j) k; rw [hd1]; rw [List.length_take] at this; omega
        have bd2 : 0 ≤ d2 ∧ d2 ≤ 500000 := by have := degI_le (L.take j) k; rw [hd2]; rw [List.length_take] at this; omega
        by_cases hjl : j < L.length
        · obtain ⟨⟨x1, x2⟩, hx⟩ : ∃ p, L[j]? = some p := ⟨L[j], List.getElem?_eq_getElem _⟩
          obtain ⟨g, o, rfl, hg, q0, q1⟩ := lies2 HLw.out hx
          have i1 : (j : Int) < (L.length : Int) := by omega
          have t1 := degO_take (v := (k : Int)) hx
          have t2 := degI_take (v := (k : Int)) hx
          rw [← hd1] at t1
          rw [← hd2] at t2
          by_cases e1 : x1 = (k : Int) <;> by_cases e2 : x2 = (k : Int)
          · rw [if_pos e1] at t1
            rw [if_pos e2] at t2
            have f1 : (x1 == (k : Int)) = true := by simpa using e1
            have f2 : (x2 == (k : Int)) = true := by simpa using e2
            have T1 := Lib.hid t1
            have T2 := Lib.hid t2
            clear hx hg t1 t2 e1 e2 hd1 hd2
            go_wp2
            go_roundw
            case rel => exact ⟨j + 1, d1 + 1, d2 + 1, by omega, by go_num, by go_num, by go_num, T1.out.symm, T2.out.symm, trivial⟩
            case measure => simp [intOf]; omega
          · rw [if_pos e1] at t1
            rw [if_neg e2] at t2
            have f1 : (x1 == (k : Int)) = true := by simpa using e1
            have f2 : (x2 == (k : Int)) = false := by simpa using e2
            have T1 := Lib.hid t1
            have T2 := Lib.hid t2
            clear hx hg t1 t2 e1 e2 hd1 hd2
            go_wp2
            go_roundw
            case rel => exact ⟨j + 1, d1 + 1, d2, by omega, by go_num, by go_num, by go_num, T1.out.symm, T2.out.symm, trivial⟩
            case measure => simp [intOf]; omega
          · rw [if_neg e1] at t1
            rw [if_pos e2] at t2
            have f1 : (x1 == (k : Int)) = false := by simpa using e1
            have f2 : (x2 == (k : Int)) = true := by simpa using e2
            have T1 := Lib.hid t1
            have T2 := Lib.hid t2
            clear hx hg t1 t2 e1 e2 hd1 hd2
            go_wp2
            go_roundw
            case rel => exact ⟨j + 1, d1, d2 + 1, by omega, by go_num, by go_num, by go_num, T1.out.symm, T2.out.symm, trivial⟩
            case measure => simp [intOf]; omega
          · rw [if_neg e1] at t1
            rw [if_neg e2] at t2
            have f1 : (x1 == (k : Int)) = false := by simpa using e1
            have f2 : (x2 == (k : Int)) = false := by simpa using e2
            have T1 := Lib.hid t1
            have T2 := Lib.hid t2
            clear hx hg t1 t2 e1 e2 hd1 hd2
            go_wp2
            go_roundw
            case rel => exact ⟨j + 1, d1, d2, by omega, by go_num, by go_num, by go_num, T1.out.symm, T2.out.symm, trivial⟩
            case measure => simp [intOf]; omega
        · obtain rfl : j = L.length := by omega
          rw [List.take_length] at hd1 hd2
          obtain ⟨R1, hR1⟩ : ∃ R, D ++ [d1] = R := ⟨_, rfl⟩
          obtain ⟨R2, hR2⟩ : ∃ R, E ++ [d2] = R := ⟨_, rfl⟩
          have X1 := Lib.hid hR1
          have X2 := Lib.hid hR2
          have Y1 := Lib.hid (show R1 = dO (k + 1) L by rw [← hR1, HD.out, hd1, dO_succ])
          have Y2 := Lib.hid (show R2 = dI (k + 1) L by rw [← hR2, HE.out, hd2, dI_succ])
          have Z1 := Lib.hid (show R1.length ≤ 2000000 by rw [Y1.out, dO_len]; omega)
          have Z2 := Lib.hid (show R2.length ≤ 2000000 by rw [Y2.out, dI_len]; omega)
          clear hd1 hd2 hR1 hR2 hjl
          go_wp2_with (first
            | (at_builtin; refine wp_appJ rfl _ _ rfl w.heap.size E d2 R2 X2.out (.slice A2 E.length c2) rfl (HR2b.out.alloc _) w3.heap.size rfl (heap_alloc_new w3 _) Z2.out (Nat.le_trans HB3.out.size (by simp)) ?_; intro A4 c4 w4 hr4 hf4 ho4; have HO4 := Lib.hid hr4; have HW4 := Lib.hid ho4; have HF4 := Lib.hid (((Fr.alloc w3 (.cells #[.int .i64 d2] 3)).mono (fun _ h => h.elim)).trans hf4); have HB4 := Lib.hid ((HB3.out.alloc HB3.out.size (.cells #[.int .i64 d2] 3)).trans (hf4.below (Nat.le_trans HB3.out.size (by simp)) (fun i e => (HR2b.out.lt i e).1))); clear hr4 hf4 ho4)
            | (at_builtin; refine wp_appJ rfl _ _ rfl w.heap.size D d1 R1 X1.out (.slice A1 D.length c1) rfl (HR1.out.alloc _) wr.heap.size rfl (heap_alloc_new wr _) Z1.out (Nat.le_trans HB.out.size (by simp)) ?_; intro A3 c3 w3 hr3 hf3 ho3; have HO3 := Lib.hid hr3; have HW3 := Lib.hid ho3; have HR2b := Lib.hid (hf3.row (HR2.out.alloc _) (fun g hg e => HNE.out g e hg)); have HB3 := Lib.hid ((HB.out.alloc HB.out.size (.cells #[.int .i64 d1] 3)).trans (hf3.below (Nat.le_trans HB.out.size (by simp)) (fun i e => (HR1.out.lt i e).1))); clear hr3 hf3 ho3))
          go_roundw
          case rel =>
            have hd2 : ∀ g, (Value.slice A3 R1.length c3).ownBlock = some g → (Value.slice A2 E.length c2).ownBlock ≠ some g := fun g hg e => by
              rcases HW3.out g hg with h | h
              · exact HNE.out g h e
              · have := (HR2.out.lt g e).2
                simp at h
                omega
            refine ⟨k + 1, A3, c3, A4, c4, R1, R2, by omega, by go_num, rfl, rfl, Y1.out, Y2.out, HF4.out.row HO3.out (fun g hg e => hd2 g hg e), HO4.out, fun g hg e => ?_, HB4.out⟩
            rcases HW4.out g e with h | h
            · exact hd2 g hg h
            · have := (HO3.out.lt g hg).2
              simp at h
              omega
          case measure => simp [intOf]; omega
    · obtain rfl : k = N := by omega
      have Y1 := Lib.hid (show D.length = k by rw [HD.out, dO_len])
      have Y2 := Lib.hid (show E.length = k by rw [HE.out, dI_len])
      go_wp2
      exact bodyPost_ret (v := .tuple #[.slice A1 D.length c1, .slice A2 E.length c2]) (by simp [results, Try.results12, go_sem]) rfl ⟨A1, c1, A2, c2, by rw [HD.out, HE.out], by have := HR1.out; rw [HD.out] at this; exact this, by have := HR2.out; rw [HE.out] at this; exact this, HB.out⟩
end Go.Proofs.Ytfehlnmkeniniaa.E
