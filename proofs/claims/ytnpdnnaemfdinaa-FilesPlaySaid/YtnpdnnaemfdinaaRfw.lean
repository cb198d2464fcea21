/- The document's Write, Put, Flip. Conditions: those that each theorem names. -/
import Derived.Test.YtnpdnnaemfdinaaRfn
namespace Go.Proofs.Ytnpdnnaemfdinaa.F
open Go.RowKit Go.Maps Go.Sort Go.Shelf
open Go.Proofs.Ytnpdnnaemfdinaa.Ma
set_option linter.unusedVariables false
set_option linter.unusedSimpArgs false
section
variable {w : World} {ops : Array Oper} {rest : List Oper} {o : Oper} {a : Act} {Q : Exit → Act → World → Prop}
/-- append of texts that lie there onto nothing. -/
theorem wp_copy (hgd : o.guard = none) (s x : Operand) (ho : o.op = .call { callee := .builtin .append, args := #[s, x], argTypes := #[28, 28] })
    (N : List ByteArray) (m : Nat) (hm : N.length = m) (hs : a.eval s = .slice none 0 0) (A : Option Addr) (c : Nat) (hx : a.eval x = .slice A m c) (hl : Lies encS 1 w A N) (hlen : m ≤ 1000000)
    (h : ∀ A' c' w', w'.ownsRow w.heap.size 9 1 (.slice A' m c') m (cellsK encS N) → Below w.heap.size w w' → wpList Try.prog ops Q rest (a.put o.dst (.slice A' m c')) w') : wpList Try.prog ops Q (o :: rest) a w := by
  obtain ⟨i0, hi, hz0, hz1, hz2⟩ := info_parts info9
  subst hm
  cases hN : N with
  | nil =>
    subst hN
    cases A with
    | none =>
      refine wpList_plain hgd fun K hK => ?_
      have hr : (Builtin.append_ #[28, 28] o.type #[.slice none 0 0, .slice none 0 c]).run Try.prog w = .ok (.slice none 0 0) w := by
        simp [Builtin.append_, run_underlying Try.underlying28, sizeOf, typeInfo, hi, Builtin.lenOf, Builtin.firstCells]
      unfold Oper.wp execOp
      simp only [ho, resolve, invoke, builtin, Sem.run_bind, Sem.run_pure, Result.andThen_ok, List.map_toArray, List.map_cons, List.map_nil, hs, hx, List.length_nil, hr]
      exact hK _ _ (h none 0 w (World.ownsRow_nil _ _ _ _) (Below.refl _ _))
    | some ad =>
      refine wpList_append_own_at _ hgd s x 28 ho w.heap.size 9 i0 _ 1 16 Try.underlying28 hi hz0 hz1 hz2 rfl (by decide) (.slice none 0 0) 0 [] hs (World.ownsRow_nil _ _ _ _) ad 0 c [] hx rfl (fun j u hu => nomatch hu) (fun u hu => nomatch hu) (by unfold maxLen; omega) (by omega) (Nat.le_refl _) ?_
      intro v' w' hr hg _ _
      obtain ⟨A', c', rfl, _, _⟩ := row_open (enc := encS) encS_len hr
      exact h A' c' w' hr ((Fr.of_grownR hg).below (Nat.le_refl _) (fun i e => nomatch e))
  | cons y r =>
    subst hN
    obtain ⟨g, o', e, _, _⟩ := hl 0 y rfl
    subst e
    have hn := lies_news encS_len hl (Below.refl _ _) (n := (y :: r).length) 0
    rw [List.drop_zero, List.take_length, Nat.zero_mul, Nat.add_zero] at hn
    refine wpList_append_own_at _ hgd s x 28 ho w.heap.size 9 i0 _ 1 16 Try.underlying28 hi hz0 hz1 hz2 rfl (by decide) (.slice none 0 0) 0 [] hs (World.ownsRow_nil _ _ _ _) ⟨g, o', none⟩ (y :: r).length c (cellsK encS (y :: r)) hx (by rw [cellsK_length encS_len]) hn (by
      rw [cellsS]
      intro u hu
      obtain ⟨z, _, rfl⟩ := List.mem_map.1 hu
      rfl) (by unfold maxLen; omega) (by omega) (Nat.le_refl _) ?_
    intro v' w' hr hg _ _
    rw [Nat.zero_add, List.nil_append] at hr
    obtain ⟨A', c', rfl, _, _⟩ := row_open encS_len hr
    exact h A' c' w' hr ((Fr.of_grownR hg).below (Nat.le_refl _) (fun i e => nomatch e))
end
theorem xw_join {X : Nat → Prop} {w w1 w2 : World} (h1 : w.heap.size ≤ w1.heap.size) (h2 : w1.heap.size ≤ w2.heap.size) : ∀ k, Xw (Xw X w w1) w1 w2 k → Xw X w w2 k := by
  rintro k ((h | h) | h)
  · exact .inl h
  · exact .inr (by omega)
  · exact .inr (by omega)
/-- A row of the call's own, handed to set. -/
theorem set_own {X : Nat → Prop} {w w7 : World} {r : Nat} {room left : Int} {D : List De} {s : ByteArray} {A : Option Addr} {c m : Nat} {P : List ByteArray} (h : RfX X w r room left D) (hrise : D.Pairwise fun p q => nm p.1 < nm q.1) (hn : D.length ≤ 4096) (hb : Below w.heap.size w w7) (hm : P.length = m)
    (hrow : w7.ownsRow w.heap.size 9 1 (.slice A m c) m (cellsK encS P)) :
    Calls Try.prog 57 #[.pointer (some ⟨r, 0, none⟩), .string s, .slice A m c] w7 fun e w' => e = .returned (.tuple #[]) ∧ RfX (Xw X w w') w' r room left (setD s P D) ∧ Fr (fun k => k = r) w w' := by
  subst hm
  have hbase : ∀ g o, A = some ⟨g, o, none⟩ → w.heap.size ≤ g ∧ g < w7.heap.size := fun g o e => by
    have hg : (Value.slice A P.length c).ownBlock = some g := by subst e; rfl
    exact ⟨own_base hrow hg, (own_lt hrow hg).1⟩
  have hr := h.lt
  refine (set_at ⟨s, A, c, P⟩ ((h.below hb).mono (fun k hk => .inl hk) : RfX (Xw X w w7) w7 r room left D) hrise hn (row_lies encS_len hrow) (fun g o e => ⟨.inr (hbase g o e), by have := (hbase g o e).1; omega⟩)).mono ?_
  rintro e w' ⟨rfl, h1, hf⟩
  exact ⟨rfl, h1.mono (xw_join hb.size hf.size), ((Fr.of_below hb).mono (fun _ e => e.elim)).trans hf⟩
section
variable {X : Nat → Prop} {w : World} {r : Nat} {room left : Int} {D : List De}
set_option maxRecDepth 100000 in
set_option maxHeartbeats 2000000 in
theorem rwrite_at (s : ByteArray) (hs : s.size ≤ maxLen) (A : Option Addr) (c : Nat) (P : List ByteArray) (hP : Lies encS 1 w A P) (hlen : P.length ≤ 1000000) (h : RfX X w r room left D) (hrise : D.Pairwise fun p q => nm p.1 < nm q.1) (hn : D.length ≤ 4096) (hp : pagesD D ≤ 4096) (hrm : room ≤ 4096) (hll : (lookD D s).length ≤ 4096) :
    Calls Try.prog 47 #[.pointer (some ⟨r, 0, none⟩), .string s, .slice A P.length c] w fun e w' => e = .returned (.int .i64 (writeF room D s P).1) ∧ RfX (Xw X w w') w' r room left (writeF room D s P).2 ∧ Fr (fun k => k = r) w w' := by
  obtain ⟨rr, hrr⟩ : ∃ q, writeF room D s P = q := ⟨_, rfl⟩
  rw [hrr]
  have HRR := Lib.hid hrr
  have H0 := Lib.hid (h.mono (fun k hk => .inl hk) : RfX (Xw X w w) w r room left D)
  have HN := Lib.hid (rname_at s hs w)
  obtain ⟨nk, hnk⟩ : ∃ q, nameOk s = q := ⟨_, rfl⟩
  rw [hnk] at HN
  have HNK := Lib.hid hnk
  cases nk with
  | false =>
    have HV := Lib.hid (show rr = (2, D) by rw [← hrr]; unfold writeF; rw [if_pos (by simp [hnk])])
    generalize P.length = n at hlen ⊢
    clear hrr h hrise hn hp hrm hll hP hs hnk
    go_enter Try.func47, Try.ntmps47
    go_wp2_with (go_at_call 29; refine HN.out.mono ?_; rintro e w' ⟨rfl, rfl⟩)
    go_ret
    exact ⟨by rw [HV.out]; rfl, by rw [HV.out]; exact H0.out, Fr.refl _ _⟩
  | true =>
    have HP := Lib.hid hP
    have HU := Lib.hid (fun n => rused_at (h.drewN n) hn hp)
    have HG := Lib.hid (fun n => rpages_at s (h.drewN n) hn)
    have HS := Lib.hid (fun (w7 : World) (A7 : Option Addr) (c7 m : Nat) (hb : Below w.heap.size w w7) (hm : P.length = m) (hrow : w7.ownsRow w.heap.size 9 1 (.slice A7 m c7) m (cellsK encS P)) => set_own (s := s) h hrise hn hb hm hrow)
    have c0 := h.c0
    obtain ⟨u, hu⟩ : ∃ u, pagesD D = u := ⟨_, rfl⟩
    obtain ⟨v, hv⟩ : ∃ v, (lookD D s).length = v := ⟨_, rfl⟩
    rw [hu] at HU hp
    rw [hv] at HG hll
    have HUV := Lib.hid (And.intro hu hv)
    obtain ⟨n, hn0⟩ : ∃ n, P.length = n := ⟨_, rfl⟩
    have HN0 := Lib.hid hn0
    rw [hn0] at hlen ⊢
    clear hrr h hrise hn hP hs hnk hu hv hn0
    go_enter Try.func47, Try.ntmps47
    go_wp2_with (go_at_call 29; refine HN.out.mono ?_; rintro e w' ⟨rfl, rfl⟩)
    go_loop [7] (fun i => ∃ k : Nat, k ≤ n ∧ i = .int .i64 k ∧ ∀ x ∈ P.take k, x.size = 128) (fun i => n - (intOf i).toNat)
    case atStart => exact ⟨0, by omega, rfl, by simp⟩
    case round =>
      obtain ⟨k, hk, rfl, hall⟩ := hrel
      have HALL := Lib.hid hall
      clear hall
      by_cases hlt : k < n
      · obtain ⟨y, hy⟩ : ∃ y, P[k]? = some y := ⟨_, List.getElem?_eq_getElem (by have := HN0.out; omega)⟩
        obtain ⟨g, o, e, _, q0⟩ := lies_s HP.out hy
        subst e
        have HY := Lib.hid hy
        have i1 : (k : Int) < (n : Int) := by omega
        have i2 : (k : Int) < 1000000 := by omega
        by_cases h128 : y.size = 128
        · have e1 : (((y.size : Nat) : Int) != 128) = false := by simp [h128]
          have HA := Lib.hid (show ∀ x ∈ P.take (k + 1), x.size = 128 by
            intro x hx
            rw [List.take_add_one, hy] at hx
            rcases List.mem_append.1 hx with hx | hx
            · exact HALL.out x hx
            · obtain rfl : x = y := by simpa using hx
              exact h128)
          clear hy h128
          go_wp2
          go_round
          case rel => exact ⟨k + 1, by omega, by go_num, HA.out⟩
          case measure => simp [intOf]; omega
        · have e1 : (((y.size : Nat) : Int) != 128) = true := by simp; omega
          have HV := Lib.hid (show rr = (2, D) by
            rw [← HRR.out]
            unfold writeF
            rw [if_pos]
            rw [Bool.or_eq_true]
            exact .inr (List.any_eq_true.2 ⟨y, List.mem_of_getElem? hy, by simpa using h128⟩))
          clear hy h128
          go_wp2
          go_ret
          exact ⟨by rw [HV.out]; rfl, by rw [HV.out]; exact H0.out, Fr.refl _ _⟩
      · obtain rfl : k = n := by omega
        have hany : ¬ (!nameOk s || P.any fun x => !decide (x.size = 128)) = true := by
          rw [HNK.out]
          simp only [Bool.not_true, Bool.false_or, List.any_eq_true, not_exists, not_and]
          intro x hx
          have := HALL.out x (by rw [List.take_of_length_le (by have := HN0.out; omega)]; exact hx)
          simp [this]
        by_cases hroom : room < (u : Int) - (v : Int) + (k : Int)
        · have HV := Lib.hid (show rr = (61, D) by
            rw [← HRR.out]
            unfold writeF
            rw [if_neg hany, HUV.out.1, HUV.out.2, HN0.out, if_pos (by omega)])
          clear hany
          go_wp2
          go_quiet ((first
            | (go_at_call 28; exact Calls.quiet_of_same ((HU.out _).mono fun _ _ ⟨he, hw⟩ => ⟨he, hw.symm⟩))
            | (go_at_call 27; exact Calls.quiet_of_same ((HG.out _).mono fun _ _ ⟨he, hw⟩ => ⟨he, hw.symm⟩))))
          go_wp2
          go_ret
          exact ⟨by rw [HV.out]; rfl, by rw [HV.out]; exact (H0.out.drewN nq).mono (fun k hk => hk.imp id (fun ⟨a, b⟩ => ⟨a, b⟩)), Fr.drewN _ _ _⟩
        · have HV := Lib.hid (show rr = (0, setD s P D) by
            rw [← HRR.out]
            unfold writeF
            rw [if_neg hany, HUV.out.1, HUV.out.2, HN0.out, if_neg (by omega)])
          clear hany
          go_wp2
          go_quiet ((first
            | (go_at_call 28; exact Calls.quiet_of_same ((HU.out _).mono fun _ _ ⟨he, hw⟩ => ⟨he, hw.symm⟩))
            | (go_at_call 27; exact Calls.quiet_of_same ((HG.out _).mono fun _ _ ⟨he, hw⟩ => ⟨he, hw.symm⟩))))
          go_wp2_with (first
            | (go_at_call 57; refine (HS.out w7 A7 c7 k HB7.out HN0.out HR7.out).mono ?_; rintro e w8 ⟨rfl, h8, hf8⟩)
            | (at_builtin; refine wp_copy rfl _ _ rfl P k HN0.out rfl _ c rfl (HP.out.drewN nq) (by omega) ?_; intro A7 c7 w7 hr7 hb7; have HR7 := Lib.hid (show w7.ownsRow w.heap.size 9 1 (.slice A7 k c7) k (cellsK encS P) from hr7); have HB7 := Lib.hid (show Below w.heap.size w w7 from (below_drewNg w nq).trans hb7); clear hr7 hb7))
          go_ret
          exact ⟨by rw [HV.out]; rfl, by rw [HV.out]; exact h8, hf8⟩
end
end Go.Proofs.Ytnpdnnaemfdinaa.F
