/- slices.Compact at edges, walked. Conditions: those that each theorem names. -/
import Derived.Lib.SliceRun
import Derived.Test.YtdlmkdldmiiaiaaNrm
namespace Go.Proofs.Ytdlmkdldmiiaiaa.D
open Go.RowKit Go.Sort Go.Shelf
open Go.Proofs.Ytdlmkdldmiiaiaa.Ma
set_option linter.unusedVariables false
set_option linter.unusedSimpArgs false
theorem zero24 (w : World) : (zeroValue 41).run Try.prog w = .ok (.agg #[.int .i64 0, .int .i64 0]) w := by kernel_rfl
abbrev zsN (n : Nat) : List Value := (Builtin.zeroCells (Value.agg #[.int .i64 0, .int .i64 0]).cells n).toList
theorem zs_len (n : Nat) : (zsN n).length = n * 2 := by
  show (Builtin.zeroCells _ n).toList.length = _
  rw [Array.length_toList, size_zeroCells]
  rfl
theorem zs_one (n : Nat) : ∀ u ∈ zsN n, u.oneCell' = true := by
  intro u hu
  simp only [zsN, Builtin.zeroCells, Array.toList_map, List.mem_map] at hu
  obtain ⟨i, _, rfl⟩ := hu
  have hc : (Value.agg #[.int .i64 0, .int .i64 0]).cells = #[.int .i64 0, .int .i64 0] := rfl
  rw [hc]
  have : i % 2 < 2 := Nat.mod_lt _ (by omega)
  have h2 : i % 2 = 0 ∨ i % 2 = 1 := by omega
  show ((#[Value.int .i64 0, .int .i64 0])[i % 2]!).oneCell' = true
  rcases h2 with e | e <;> rw [e] <;> rfl
theorem run_clear_n (w : World) (ty : TypeId) (b o n c : Nat) (hn : 0 < n) (hc : ∀ j, j < n * 2 → (w.cell? ⟨b, o + j, none⟩).isSome = true) (hf : ∀ j, j < n * 2 → w.frozen? ⟨b, o + j, none⟩ = false) :
    (Builtin.clear_ #[22] ty #[.slice (some ⟨b, o, none⟩) n c]).run Try.prog w = .ok (.tuple #[]) (w.setCells b o (zsN n)) := by
  have hst := run_storeCells_cells (P := Try.prog) b o (zsN n) 0 w (by rw [zs_len]; simpa using hc) (by rw [zs_len]; simpa using hf) (zs_one n)
  simp only [Nat.add_zero] at hst
  obtain ⟨m, rfl⟩ : ∃ m, n = m + 1 := ⟨n - 1, by omega⟩
  simp [Builtin.clear_, run_underlying Try.underlying22, zero24, hst]
theorem row_set2 {V : World} {B g c j : Nat} {K : List Ed} {x1 x2 : Int} (u1 u2 : Int) (h : V.ownsRow B 41 2 (.slice (some ⟨g, 0, none⟩) K.length c) K.length (cellsK enc2 K)) (hx : K[j]? = some (x1, x2)) :
    ((V.setCell ⟨g, j * 2, none⟩ (.int .i64 u1)).setCell ⟨g, j * 2 + 1, none⟩ (.int .i64 u2)).ownsRow B 41 2 (.slice (some ⟨g, 0, none⟩) K.length c) K.length (cellsK enc2 (K.set j (u1, u2))) := by
  have hj := (List.getElem?_eq_some_iff.1 hx).1
  have h1 := row_set (y := (u1, x2)) (i := 0) (u := .int .i64 u1) enc2_len h hx (by omega) rfl
  have h2 := row_set (L := K.set j (u1, x2)) (y := (u1, u2)) (i := 1) (u := .int .i64 u2) enc2_len (by rw [List.length_set]; exact h1) (List.getElem?_set_self hj) (by omega) rfl
  simpa [List.set_set] using h2
theorem fr_set2 (V : World) (g o1 o2 : Nat) (u1 u2 : Value) : Fr (fun k => k = g) V ((V.setCell ⟨g, o1, none⟩ u1).setCell ⟨g, o2, none⟩ u2) :=
  (Fr.setCell V ⟨g, o1, none⟩ u1).trans (Fr.setCell _ ⟨g, o2, none⟩ u2)
/-- A row's end cleared: what is left in front. -/
theorem row_front {V : World} {B g c p : Nat} {K : List Ed} {vs : List Value} (h : V.ownsRow B 41 2 (.slice (some ⟨g, 0, none⟩) K.length c) K.length (cellsK enc2 K)) (hp : p ≤ K.length) (hv : vs.length = (K.length - p) * 2) :
    (V.setCells g (p * 2) vs).ownsRow B 41 2 (.slice (some ⟨g, 0, none⟩) p c) p (cellsK enc2 (K.take p)) ∧ Fr (fun k => k = g) V (V.setCells g (p * 2) vs) := by
  rcases h.2 with ⟨e, _⟩ | ⟨g', cap, cur, e, hB, hg, hc, hm, hcs, hcur⟩
  · cases e
  cases e
  have hl : (K.take p).length = p := by rw [List.length_take]; omega
  refine ⟨?_, Fr.setCells _ _ _ _⟩
  have := row_cut (enc := enc2) (M := K.take p) enc2_len hB (heap_setCells_at vs (w := V) (o := p * 2) hg) (by omega) hm (by rw [size_setMany]; exact hcs) (by
    rw [hl, setMany_list _ _ _ (by rw [hcs, hv]; omega), List.append_assoc, List.take_append_of_le_length (by simp; omega), List.take_take, Nat.min_self]
    have e4 : cur.toList.take (p * 2) = (cur.toList.take (K.length * 2)).take (p * 2) := by rw [List.take_take, Nat.min_eq_left (by omega)]
    have hsp : cellsK enc2 K = cellsK enc2 (K.take p) ++ cellsK enc2 (K.drop p) := by rw [← cellsK_append, List.take_append_drop]
    have htl : (cellsK enc2 (K.take p)).length = p * 2 := by rw [cellsK_length enc2_len, hl]
    rw [e4, hcur, hsp, List.take_append_of_le_length (by omega), List.take_of_length_le (by omega)])
  rw [hl] at this
  exact this
/-- The facts of a row, at one place: its two cells, free. -/
theorem row2 {V : World} {B g c j : Nat} {K : List Ed} {x1 x2 : Int} (h : V.ownsRow B 41 2 (.slice (some ⟨g, 0, none⟩) K.length c) K.length (cellsK enc2 K)) (hx : K[j]? = some (x1, x2)) :
    V.cell? ⟨g, j * 2, none⟩ = some (.int .i64 x1) ∧ V.frozen? ⟨g, j * 2, none⟩ = false ∧ V.cell? ⟨g, j * 2 + 1, none⟩ = some (.int .i64 x2) ∧ V.frozen? ⟨g, j * 2 + 1, none⟩ = false := by
  obtain ⟨g', c', e, hB, hg, _, _, hc⟩ := row_own enc2_len h hx
  cases e
  obtain ⟨a1, a2⟩ := hc 0 _ rfl
  obtain ⟨a3, a4⟩ := hc 1 _ rfl
  exact ⟨a1, a2, a3, a4⟩
theorem drop_next {M K : List Ed} {a : Nat} (h : K.drop (a + 1) = M.drop (a + 1)) : K.drop (a + 1 + 1) = M.drop (a + 1 + 1) := by
  have := congrArg (fun l => l.drop 1) h
  simpa [List.drop_drop] using this
theorem drop_set {M K : List Ed} {a p : Nat} {z : Ed} (hp : p ≤ a + 1) (h : K.drop (a + 1) = M.drop (a + 1)) : (K.set p z).drop (a + 1 + 1) = M.drop (a + 1 + 1) := by
  rw [List.drop_set, if_pos (by omega)]
  exact drop_next h
theorem take_set {K : List Ed} {p : Nat} {y z : Ed} (hy : K[p]? = some y) : (K.set p z).take (p + 1) = K.take p ++ [z] := by
  have hp := (List.getElem?_eq_some_iff.1 hy).1
  rw [take_snoc (List.getElem?_set_self hp), List.take_set_of_le (by omega)]
attribute [local irreducible] wpQuiet
set_option maxRecDepth 100000 in
set_option maxHeartbeats 4000000 in
theorem compact_at (B g c : Nat) (M : List Ed) (w : World) (h : w.ownsRow B 41 2 (.slice (some ⟨g, 0, none⟩) M.length c) M.length (cellsK enc2 M)) (hlen : M.length ≤ 1000000) :
    Calls Try.prog 56 #[.slice (some ⟨g, 0, none⟩) M.length c] w fun e w' => ∃ v', e = .returned v' ∧ w'.ownsRow B 41 2 v' (cpt M).length (cellsK enc2 (cpt M)) ∧ Fr (fun k => k = g) w w' := by
  obtain ⟨_, _, e, hlc, hcm⟩ := row_open enc2_len h
  cases e
  have H := Lib.hid h
  have HLen := Lib.hid hlen
  have HLc := Lib.hid hlc
  have HCm := Lib.hid hcm
  go_enter Try.func56, Try.ntmps56
  by_cases h2 : M.length < 2
  · have e2 : (M.length : Int) < 2 := by omega
    have hE := Lib.hid (cpt_one h2)
    clear h hlen hlc hcm h2
    go_wp2
    go_ret
    exact ⟨_, rfl, by rw [hE.out]; exact H.out, Fr.refl _ _⟩
  have e2 : ¬ (M.length : Int) < 2 := by omega
  clear h hlc hcm
  go_wp2
  go_loopw [3] (fun i wr => ∃ (k m : Nat), 1 ≤ k ∧ k ≤ M.length ∧ i = .int .i64 k ∧ cpt (M.take k) = M.take k ∧ wr = w.drewN m) (fun i _ => M.length - (intOf i).toNat)
  case atStart => exact ⟨1, 0, by omega, by omega, rfl, cpt_one (by rw [List.length_take]; omega), rfl⟩
  case round =>
    obtain ⟨k, m, hk1, hk, rfl, hcp, rfl⟩ := hrel
    have HCp := Lib.hid hcp
    clear hcp
    by_cases hlt : k < M.length
    · obtain ⟨q, rfl⟩ : ∃ q, k = q + 1 := ⟨k - 1, by omega⟩
      obtain ⟨⟨x1, x2⟩, hx⟩ : ∃ p, M[q + 1]? = some p := ⟨M[q + 1], List.getElem?_eq_getElem _⟩
      obtain ⟨⟨y1, y2⟩, hy⟩ : ∃ p, M[q]? = some p := ⟨M[q], List.getElem?_eq_getElem _⟩
      obtain ⟨p0, _, p1, _⟩ := row2 H.out hx
      obtain ⟨q0, _, q1, _⟩ := row2 H.out hy
      have hs := Lib.hid (cpt_succ hy hx)
      have eq := eq24 x1 x2 y1 y2
      have i1 : ((q + 1 : Nat) : Int) < (M.length : Int) := by omega
      have i2 : ((q + 1 : Nat) : Int) - 1 = (q : Int) := by omega
      have HX := Lib.hid hx
      have HY := Lib.hid hy
      have HLt := Lib.hid hlt
      by_cases hxy : (x1, x2) = (y1, y2)
      · cases hxy
        rw [show decide (x1 = x1 ∧ x2 = x2) = true by simp] at eq
        obtain ⟨n2, hn2⟩ : ∃ n2, n2 = M.length - (q + 1) := ⟨_, rfl⟩
        have b1 : ((q + 1 : Nat) : Int) ≤ (c : Int) := by have := HLc.out; omega
        have b2 : (M.length : Int) ≤ (c : Int) := by have := HLc.out; omega
        have b3 : ((q + 1 : Nat) : Int) ≤ (M.length : Int) := by omega
        have b4 : ¬ c = q + 1 := by have := HLc.out; omega
        have b5 : ¬ ((q + 1 : Nat) : Int) < 0 := by omega
        have HN2 := Lib.hid hn2
        have hs1 := hs.out
        rw [if_pos rfl, HCp.out] at hs1
        have HS1 := Lib.hid hs1
        clear hx hy hlt hn2 hs1 hs
        go_wp2
        go_quiet (fail)
        go_wp2
        clear p0 p1 q0 q1 eq
        go_loopw [3, 5] (fun i t wr => ∃ (p r : Nat) (K : List Ed), i = .int .i64 p ∧ t = .int .i64 ((r + 1 : Nat) : Int) ∧ q + 1 + r + 1 ≤ M.length ∧ K.length = M.length ∧ 1 ≤ p ∧ p ≤ q + r + 1 ∧ K.take p = cpt (M.take (q + 1 + r + 1)) ∧ K.drop (q + r + 1) = M.drop (q + r + 1) ∧ wr.ownsRow B 41 2 (.slice (some ⟨g, 0, none⟩) K.length c) K.length (cellsK enc2 K) ∧ Fr (fun k => k = g) w wr) (fun _ t _ => M.length - (intOf t).toNat)
        case atStart => exact ⟨q + 1, 0, M, rfl, rfl, HLt.out, rfl, by omega, by omega, HS1.out.symm, rfl, H.out, Fr.drewN _ _ _⟩
        case round =>
          obtain ⟨p, r, K, rfl, rfl, hqr, hK, hp1, hpr, hKp, hKd, hrow, hfr⟩ := hrel
          have HK := Lib.hid hK
          have HKp := Lib.hid hKp
          have HKd := Lib.hid hKd
          have HRow := Lib.hid hrow
          have HFr := Lib.hid hfr
          clear hKp hKd hfr
          obtain ⟨⟨t1, t2⟩, ht⟩ : ∃ x, K[p]? = some x := ⟨K[p]'(by omega), List.getElem?_eq_getElem _⟩
          by_cases hl2 : q + 1 + r + 1 < M.length
          · obtain ⟨⟨z1, z2⟩, hz⟩ : ∃ x, M[q + 1 + r + 1]? = some x := ⟨M[q + 1 + r + 1], List.getElem?_eq_getElem _⟩
            obtain ⟨⟨y1, y2⟩, hy⟩ : ∃ x, M[q + 1 + r]? = some x := ⟨M[q + 1 + r], List.getElem?_eq_getElem _⟩
            have hcs := Lib.hid (cpt_succ hy hz)
            have hKz : K[q + 1 + r + 1]? = some (z1, z2) := by
              have := congrArg (fun l => l[1]?) HKd.out
              simp only [List.getElem?_drop] at this
              rw [show q + 1 + r + 1 = q + r + 1 + 1 by omega, this, show q + r + 1 + 1 = q + 1 + r + 1 by omega, hz]
            have hKy : K[q + 1 + r]? = some (y1, y2) := by
              have := congrArg (fun l => l[0]?) HKd.out
              simp only [List.getElem?_drop] at this
              rw [show q + 1 + r = q + r + 1 + 0 by omega, this, show q + r + 1 + 0 = q + 1 + r by omega, hy]
            obtain ⟨a0, _, a1, _⟩ := row2 hrow hKz
            obtain ⟨c0, _, c1, _⟩ := row2 hrow hKy
            rw [show (q + 1 + r + 1) * 2 = (q + 1) * 2 + (r + 1) * 2 by omega] at a0 a1
            rw [show (q + 1 + r) * 2 = (q + 1) * 2 + r * 2 by omega] at c0 c1
            have neq := neq24 z1 z2 y1 y2
            have HSet := Lib.hid (row_set2 z1 z2 hrow ht)
            have HZ := Lib.hid hz
            have HQR := Lib.hid hl2
            obtain ⟨_, f0, _, f1⟩ := row2 hrow ht
            obtain ⟨e0, _, e1, _⟩ := row2 hrow ht
            have j1 : ((r + 1 : Nat) : Int) < ((M.length - (q + 1) : Nat) : Int) := by omega
            have j2 : ((r + 1 : Nat) : Int) - 1 = (r : Int) := by omega
            have j3 : (r : Int) < ((M.length - (q + 1) : Nat) : Int) := by omega
            have j4 : (p : Int) < (M.length : Int) := by omega
            by_cases hzy : (z1, z2) = (y1, y2)
            · cases hzy
              rw [show (!decide (z1 = z1 ∧ z2 = z2)) = false by simp] at neq
              have e5 := hcs.out
              rw [if_pos rfl] at e5
              have E5 := Lib.hid e5
              have HPr := Lib.hid hpr
              clear hz hy ht hKz hKy hrow hK hcs e5 hl2 hqr hpr f0 f1 e0 e1
              go_wp2
              go_quiet (fail)
              go_wp2
              go_roundw
              case rel => exact ⟨p, r + 1, K, rfl, by go_num, by have := HQR.out; omega, HK.out, hp1, by have := HPr.out; omega, by rw [HKp.out]; exact E5.out.symm, drop_next HKd.out, HRow.out, HFr.out.trans (Fr.drewN _ _ _)⟩
              case measure => have := HQR.out; simp [intOf]; omega
            · rw [show (!decide (z1 = y1 ∧ z2 = y2)) = true by rw [decide_eq_false (fun e => hzy (by rw [e.1, e.2]))]; rfl] at neq
              have e5 := hcs.out
              rw [if_neg (fun e => hzy e.symm)] at e5
              have E5 := Lib.hid e5
              have HT := Lib.hid ht
              have HPr := Lib.hid hpr
              clear hz hy ht hKz hKy hrow hK hcs e5 hl2 hqr hpr hzy
              go_wp2
              go_quiet (fail)
              go_wp2
              go_roundw
              case rel => exact ⟨p + 1, r + 1, K.set p (z1, z2), by go_num, by go_num, by have := HQR.out; omega, by rw [List.length_set]; exact HK.out, by omega, by have := HPr.out; omega, by rw [take_set HT.out, HKp.out]; exact E5.out.symm, drop_set HPr.out HKd.out, by rw [List.length_set]; exact HSet.out, HFr.out.trans ((Fr.drewN _ _ _).trans (fr_set2 _ _ _ _ _ _))⟩
              case measure => have := HQR.out; simp [intOf]; omega
          · have hend : q + 1 + r + 1 = M.length := by omega
            have hpm : p < M.length := by omega
            rw [hend, List.take_length] at HKp
            have hcell : ∀ t, t < (M.length - p) * 2 → (wr.cell? ⟨g, p * 2 + t, none⟩).isSome = true ∧ wr.frozen? ⟨g, p * 2 + t, none⟩ = false := by
              intro t htt
              obtain ⟨⟨s1, s2⟩, hs⟩ : ∃ x, K[p + t / 2]? = some x := ⟨K[p + t / 2]'(by omega), List.getElem?_eq_getElem _⟩
              obtain ⟨a1, a2, a3, a4⟩ := row2 hrow hs
              rcases Nat.mod_two_eq_zero_or_one t with e | e
              · rw [show (p + t / 2) * 2 = p * 2 + t by omega] at a1 a2
                exact ⟨by rw [a1]; rfl, a2⟩
              · rw [show (p + t / 2) * 2 + 1 = p * 2 + t by omega] at a3 a4
                exact ⟨by rw [a3]; rfl, a4⟩
            have hcl2 : ∀ ty, (Builtin.clear_ #[22] ty #[.slice (some ⟨g, p * 2, none⟩) (M.length - p) (c - p)]).run Try.prog wr = .ok (.tuple #[]) (wr.setCells g (p * 2) (zsN (M.length - p))) := fun ty => run_clear_n wr ty g (p * 2) (M.length - p) (c - p) (by omega) (fun t ht => (hcell t ht).1) (fun t ht => (hcell t ht).2)
            have hfin := Lib.hid (row_front (vs := zsN (M.length - p)) hrow (show p ≤ K.length by omega) (by rw [zs_len, HK.out]))
            have HKl := Lib.hid (show (cpt M).length = p by rw [← HKp.out, List.length_take]; omega)
            have g1 : (p : Int) ≤ (c : Int) := by have := HLc.out; omega
            have g2 : (p : Int) ≤ (M.length : Int) := by omega
            have g3 : ¬ c = p := by have := HLc.out; omega
            have g4 : ¬ (p : Int) < 0 := by omega
            have j1 : ¬ ((r + 1 : Nat) : Int) < ((M.length - (q + 1) : Nat) : Int) := by omega
            clear ht hrow hK hcell hend hqr hpr hl2
            go_wp2
            go_ret
            exact ⟨_, rfl, by rw [HKl.out, ← HKp.out]; exact hfin.out.1, HFr.out.trans hfin.out.2⟩
      · rw [show decide (x1 = y1 ∧ x2 = y2) = false by simpa using fun e1 e2 => hxy (by rw [e1, e2])] at eq
        clear hx hy hlt
        have e3 := hs.out
        rw [if_neg (fun e => hxy e.symm), HCp.out] at e3
        have HC2 := Lib.hid (e3.trans (take_snoc HX.out).symm)
        clear hxy e3
        go_wp2
        go_quiet (fail)
        go_wp2
        go_roundw
        case rel => exact ⟨q + 1 + 1, _, by omega, by have := HLt.out; omega, by go_num, HC2.out, rfl⟩
        case measure => have := HLt.out; simp [intOf]; omega
    · obtain rfl : k = M.length := by omega
      go_wp2
      go_ret
      rw [List.take_length] at HCp
      exact ⟨_, rfl, by rw [HCp.out]; exact H.out, Fr.drewN _ _ _⟩
theorem compact_row (B : Nat) (v : Value) (M : List Ed) (w : World) (h : w.ownsRow B 41 2 v M.length (cellsK enc2 M)) (hlen : M.length ≤ 1000000) :
    Calls Try.prog 56 #[v] w fun e w' => ∃ v', e = .returned v' ∧ w'.ownsRow B 41 2 v' (cpt M).length (cellsK enc2 (cpt M)) ∧ Fr (fun k => v.ownBlock = some k) w w' := by
  rcases h.2 with ⟨rfl, hn⟩ | ⟨g, cap, cur, rfl, _⟩
  · obtain rfl : M = [] := List.length_eq_zero_iff.1 hn
    have H := Lib.hid h
    clear h
    go_enter Try.func56, Try.ntmps56
    go_wp2
    go_ret
    exact ⟨_, rfl, H.out, Fr.refl _ _⟩
  · refine (compact_at B g cap M w h hlen).mono ?_
    rintro e w' ⟨v', he, hr, hf⟩
    exact ⟨v', he, hr, hf.mono (fun k hk => by rw [show k = g from hk]; rfl)⟩
end Go.Proofs.Ytdlmkdldmiiaiaa.D
