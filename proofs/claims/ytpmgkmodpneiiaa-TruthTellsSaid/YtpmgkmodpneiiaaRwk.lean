/- rank: the ranks behind so many rounds. Conditions: those that each theorem names. -/
import Derived.Test.YtpmgkmodpneiiaaCrs
namespace Go.Proofs.Ytpmgkmodpneiiaa.E
open Go.RowKit Go.Sort Go.Shelf
open Go.Proofs.Ytpmgkmodpneiiaa.Ma
set_option linter.unusedVariables false
set_option linter.unusedSimpArgs false
def giveTo (now : List Nat) (l : List Int) (u : Nat) (s : List Nat) (j : Nat) : List Nat := (l.take j).foldl (fun s v => give (share now l u) s v.toNat) s
theorem giveTo_succ {now : List Nat} {l : List Int} {u : Nat} {s : List Nat} {j : Nat} {x : Int} (h : l[j]? = some x) : giveTo now l u s (j + 1) = give (share now l u) (giveTo now l u s j) x.toNat := by
  unfold giveTo
  rw [List.take_add_one, h, List.foldl_append]
  rfl
theorem giveTo_len (now : List Nat) (l : List Int) (u : Nat) (s : List Nat) (j : Nat) : (giveTo now l u s j).length = s.length := by
  unfold giveTo
  exact fold_inv0 (fun _ o => List.length o = s.length) (l.take j) s rfl (fun _ o e h _ => (give_len _ o _).trans h)
def mixTo (s now : List Nat) (k : Nat) : List Nat := (s.take k).map damped ++ now.drop k
theorem mixTo_len {s now : List Nat} (h : s.length = now.length) (k : Nat) (hk : k ≤ s.length) : (mixTo s now k).length = now.length := by
  unfold mixTo
  simp
  omega
theorem mixTo_succ {s now : List Nat} {k : Nat} (h : s.length = now.length) (hk : k < s.length) : mixTo s now (k + 1) = (mixTo s now k).set k (damped (at_ s k)) := by
  have e : ((s.take k).map damped).length = k := by simp; omega
  unfold mixTo
  rw [List.set_append_right _ _ (by rw [e]; exact Nat.le_refl _), e, Nat.sub_self, List.take_add_one, at_get hk]
  have hd : now.drop k = at_ now k :: now.drop (k + 1) := by
    have hk2 : k < now.length := by omega
    rw [List.drop_eq_getElem_cons hk2]
    simp [at_, List.getD, hk2]
  rw [hd]
  simp
section
variable {P : Program} {id : Nat} {Q : Exit → Act → World → Prop} {a : Act} {w : World} {l : List Oper}
theorem wrap_u64 (n : Int) : IntKind.u64.wrap n = n % 18446744073709551616 := by simp [IntKind.wrap, IntKind.bits, IntKind.signed]
end
theorem damped_wrap (x : Nat) : ∃ y z : Nat, IntKind.u64.wrap ((x : Int) * 850) = (y : Int) ∧ IntKind.u64.wrap ((y : Int) / 1000) = (z : Int) ∧ IntKind.u64.wrap (644245094 + (z : Int)) = (damped x : Nat) := by
  refine ⟨x * 850 % 18446744073709551616, x * 850 % 18446744073709551616 / 1000, ?_, ?_, ?_⟩
  · rw [wrap_u64]; omega
  · obtain ⟨y, hy⟩ : ∃ y, x * 850 % 18446744073709551616 = y := ⟨_, rfl⟩
    have hy2 : y < 18446744073709551616 := by rw [← hy]; exact Nat.mod_lt _ (by decide)
    rw [hy]
    rw [wrap_u64]
    omega
  · unfold damped M64
    rw [wrap_u64]
    omega
theorem share_wrap {N m : Nat} (h : N < M64) : IntKind.u64.wrap ((N : Int) / (m : Int)) = ((N / m : Nat) : Int) := by
  have e : (N : Int) / (m : Int) = ((N / m : Nat) : Int) := rfl
  have h2 := Nat.div_le_self N m
  rw [e, wrap_u64]
  generalize N / m = q at *
  unfold M64 at h
  omega
theorem damped_lt (x : Nat) : damped x < M64 := Nat.mod_lt _ (by decide)
theorem ranks_lt (adj : List (List Int)) (r v : Nat) (hv : v < adj.length) : at_ (ranks adj r) v < M64 := by
  cases r with
  | zero => simp [ranks, iter, at_, List.getD, hv, M64]
  | succ r =>
    show at_ ((sumTo adj (iter (nextRT adj) (List.replicate adj.length 4294967296) r) adj.length).map damped) v < M64
    have hl : v < (sumTo adj (iter (nextRT adj) (List.replicate adj.length 4294967296) r) adj.length).length := by rw [sumTo_len]; exact hv
    generalize sumTo adj (iter (nextRT adj) (List.replicate adj.length 4294967296) r) adj.length = S at hl ⊢
    have e : at_ (S.map damped) v = damped (at_ S v) := by simp [at_, List.getD, hl]
    rw [e]
    exact damped_lt _
theorem give_wrap (s q : Nat) : IntKind.u64.wrap ((s : Int) + (q : Int)) = (((s + q) % M64 : Nat) : Int) := by
  rw [wrap_u64]
  unfold M64
  omega
set_option maxRecDepth 100000 in
set_option maxHeartbeats 4000000 in
theorem rank_at (B p n r : Nat) (y : Value) (V : List Value) (adj : List (List Int)) (w : World) (hG : Grid B w p V adj) (hr : Rows adj) (hn : n = adj.length) (hn1 : 1 ≤ n) (hn2 : n ≤ 256) (hlen : ∀ r ∈ adj, r.length ≤ 100000) (hrr : r ≤ 1000) (P0 c0 : Nat) (hy : y = .slice (some ⟨P0, 0, none⟩) n c0) :
    Calls Try.prog 33 #[.agg #[.int .i64 (n : Int), .slice (some ⟨p, 0, none⟩) n n, y], .int .i64 (r : Int)] w fun e w' => ∃ g, e = .returned (.slice (some ⟨g, 0, none⟩) n n) ∧ UB w' g (ranks adj r) ∧ w.heap.size ≤ g ∧ Below w.heap.size w w' := by
  subst hy
  have HG := Lib.hid hG
  have HR := Lib.hid hr
  have HN := Lib.hid hn
  have HN1 := Lib.hid hn1
  have HN2 := Lib.hid hn2
  have HLEN := Lib.hid hlen
  have HRR := Lib.hid hrr
  obtain ⟨W, hW, gW, hbl, hsz⟩ := box_new w (.cells #[.int .i64 (n : Int), .slice (some ⟨p, 0, none⟩) n n, .slice (some ⟨P0, 0, none⟩) n c0] 66 (0, 0))
  have HF := Lib.hid (fun V => fill_ub 4294967296 n hn1 hn2 V)
  have HF0 := Lib.hid (fun V => fill_ub 0 n hn1 hn2 V)
  have b0 : W.cell? ⟨w.heap.size, 0, none⟩ = some (.int .i64 (n : Int)) := cell_of_heap (i := 0) gW rfl
  have b1 : W.cell? ⟨w.heap.size, 1, none⟩ = some (.slice (some ⟨p, 0, none⟩) n n) := cell_of_heap (i := 1) gW rfl
  have HBW := Lib.hid hbl
  clear hG hr hn hn1 hn2 hlen hrr gW hbl hsz
  go_enter Try.func33, Try.ntmps33
  go_wp2_with (go_at_call 47; refine (HF.out _).mono ?_; rintro e w1 ⟨g, rfl, hg, hg0, hb1⟩; have HG1 := Lib.hid hg; have HG0 := Lib.hid hg0; have HB1 := Lib.hid hb1; clear hg hg0 hb1)
  go_loopw [17] (fun v wr => ∃ k : Nat, v = .int .i64 (k : Int) ∧ k ≤ r ∧ UB wr g (ranks adj k) ∧ Below W.heap.size W wr) (fun v _ => r - (intOf v).toNat)
  case atStart => exact ⟨0, rfl, by omega, by have := HG1.out; rw [HN.out] at this; exact this, HB1.out⟩
  case round =>
    obtain ⟨k, rfl, hk, hu, hb⟩ := hrel
    have HU := Lib.hid hu
    have HB := Lib.hid hb
    by_cases hlt : k < r
    · have b0c := keep_cell b0 hb
      have i1 : (k : Int) < (r : Int) := by omega
      have i2 : (k : Int) < 1001 := by have := HRR.out; omega
      have HK := Lib.hid hlt
      obtain ⟨now, hnow⟩ : ∃ now, ranks adj k = now := ⟨_, rfl⟩
      have HNW := Lib.hid hnow
      have HNL := Lib.hid (show now.length = n by rw [← hnow, ranks_len, HN.out])
      rw [hnow] at HU
      clear hu hb hk hlt hnow
      go_upto_region 5 with (go_at_call 47; refine (HF0.out _).mono ?_; rintro e w2 ⟨gs, rfl, hg, hg0, hb1⟩; have HS2 := Lib.hid hg; have HS0 := Lib.hid hg0; have HB2 := Lib.hid hb1; clear hg hg0 hb1)
      have HB3 := Lib.hid (show Below W.heap.size W w2 from HB.out.trans (HB2.out.mono HB.out.size))
      have HU3 := Lib.hid (show UB w2 g now from HU.out.fr (Fr.of_below HB2.out) (fun h => h))
      have HNE := Lib.hid (show gs ≠ g by have := HU.out.lt; have := HS0.out; omega)
      have HSG := Lib.hid (show W.heap.size ≤ gs from Nat.le_trans HB.out.size HS0.out)
      have b1c := keep_cell b1 HB3.out
      go_wp2
      go_loopw [25] (fun v wr => ∃ u : Nat, v = .int .i64 (u : Int) ∧ u ≤ n ∧ UB wr gs (sumTo adj now u) ∧ UB wr g now ∧ Below W.heap.size W wr) (fun v _ => n - (intOf v).toNat)
      case atStart => exact ⟨0, rfl, by omega, by have := HS2.out; rw [HN.out] at this; exact this, HU3.out, HB3.out⟩
      case round =>
        obtain ⟨u, rfl, hu, k1, k2, k3⟩ := hrel
        have K1 := Lib.hid k1
        have K2 := Lib.hid k2
        have K3 := Lib.hid k3
        by_cases hlu : u < n
        · have hba : Below w.heap.size w wr := HBW.out.trans (k3.mono HBW.out.size)
          obtain ⟨row, hrow⟩ : ∃ row, adj[u]? = some row := ⟨_, List.getElem?_eq_getElem (by rw [← HN.out]; exact hlu)⟩
          have hgd : adj.getD u [] = row := by rw [List.getD_eq_getElem?_getD, hrow]; rfl
          obtain ⟨v0, hv0, hown, c1w, hk2⟩ := HG.out.row_at hrow
          have c1 := keep_cell c1w hba
          obtain ⟨A0, k0, rfl, hk0, hk1⟩ := row_open encI_len hown
          have HL := Lib.hid (row_lies encI_len hown)
          have HRL := Lib.hid (HLEN.out row (List.mem_of_getElem? hrow))
          have HV := Lib.hid (show ∀ x ∈ row, 0 ≤ x ∧ x.toNat < n from fun x hx => by
            have := HR.out row (List.mem_of_getElem? hrow) x hx
            have := HN.out
            omega)
          have j1 : (u : Int) < (n : Int) := by omega
          have j2 : (u : Int) < 1000 := by have := HN2.out; omega
          have HST := Lib.hid (show sumTo adj now (u + 1) = giveTo now row u (sumTo adj now u) row.length by
            rw [sumTo_succ, hgd]
            unfold giveTo
            rw [List.take_length]
            rfl)
          have HJ := Lib.hid hlu
          have HSL := Lib.hid (show (sumTo adj now u).length = n by rw [sumTo_len, ← HN.out])
          clear c1w k1 k2 k3 hrow hgd hv0 hown hk0 hk1 hk2 hu hlu hba
          go_wp2
          go_loopw [32] (fun v wi => ∃ j : Nat, v = .int .i64 (j : Int) ∧ j ≤ row.length ∧ UB wi gs (giveTo now row u (sumTo adj now u) j) ∧ UB wi g now ∧ Below W.heap.size W wi) (fun v _ => row.length - (intOf v).toNat)
          case atStart => exact ⟨0, rfl, by omega, K1.out, K2.out, K3.out⟩
          case round =>
            obtain ⟨j, rfl, hj, m1, m2, m3⟩ := hrel
            have M1 := Lib.hid m1
            have M2 := Lib.hid m2
            have M3 := Lib.hid m3
            by_cases hlj : j < row.length
            · obtain ⟨x, hx⟩ : ∃ x, row[j]? = some x := ⟨_, List.getElem?_eq_getElem hlj⟩
              obtain ⟨bx, ox, e, _, hc⟩ := lies1 (HL.out.below (HBW.out.trans (m3.mono HBW.out.size)) (Nat.le_refl _)) hx
              subst e
              obtain ⟨z, rfl⟩ : ∃ z : Nat, x = (z : Int) := ⟨x.toNat, by have := (HV.out x (List.mem_of_getElem? hx)).1; omega⟩
              have hz : z < n := by have := (HV.out _ (List.mem_of_getElem? hx)).2; simpa using this
              have d0 := m1.cell (v := z) (by rw [giveTo_len, HSL.out]; exact hz)
              have f0 := m1.free (v := z) (by rw [giveTo_len, HSL.out]; exact hz)
              have d1 := m2.cell (v := u) (by rw [HNL.out]; exact HJ.out)
              have HTK := Lib.hid (giveTo_succ (now := now) (u := u) (s := sumTo adj now u) hx)
              have l1 : (j : Int) < (row.length : Int) := by omega
              have l2 : (j : Int) < 100000 := by have := HRL.out; omega
              have l3 : (z : Int) < (n : Int) := by omega
              have l4 : ¬ ((row.length : Int) = 0) := by omega
              have l5 : ((row.length : Int) == 0) = false := by simpa using l4
              have v3 : IntKind.u64.wrap (row.length : Int) = (row.length : Int) := IntWalk.u64_in _ ⟨by omega, by have := HRL.out; omega⟩
              have HM := Lib.hid hlj
              have HZ := Lib.hid hz
              clear hx hz hj hlj m1 m2 m3
              go_wp2
              refine region_tail 13 (by kernel_rfl) (by kernel_rfl) fun wd hwd => ?_
              simp only [List.take_succ_cons, List.take_zero, List.drop_succ_cons, List.drop_zero]
              have HBd := Lib.hid (show Below W.heap.size W wd by rw [hwd]; exact M3.out.drew)
              have HUd := Lib.hid (show UB wd gs (giveTo now row u (sumTo adj now u) j) by rw [hwd]; exact M1.out)
              have HNd := Lib.hid (show UB wd g now by rw [hwd]; exact M2.out)
              have e0 : wd.cell? ⟨gs, z, none⟩ = some (.int .u64 (at_ (giveTo now row u (sumTo adj now u) j) z : Int)) := by rw [hwd]; exact d0
              have e1 : wd.cell? ⟨g, u, none⟩ = some (.int .u64 (at_ now u : Int)) := by rw [hwd]; exact d1
              have e2 : wd.frozen? ⟨gs, z, none⟩ = false := by rw [hwd]; exact f0
              clear hwd d0 d1 f0
              have l6 : ¬ (row = []) := fun e => by rw [e] at l1; exact absurd l1 (by simp)
              have hsh := share_wrap (N := at_ now u) (m := row.length) (by rw [← HNW.out]; exact ranks_lt adj k u (by rw [← HN.out]; exact HJ.out))
              obtain ⟨qq, hqq⟩ : ∃ q, share now row u = q := ⟨_, rfl⟩
              have hsh2 : at_ now u / row.length = qq := hqq
              rw [hsh2] at hsh
              obtain ⟨s0, hs0⟩ : ∃ s, at_ (giveTo now row u (sumTo adj now u) j) z = s := ⟨_, rfl⟩
              rw [hs0] at e0
              have hgv := give_wrap s0 qq
              have HQQ := Lib.hid (And.intro hqq hs0)
              clear hqq hsh2 hs0
              repeat still_step
              refine wpStill_nil ?_
              go_wp2
              go_roundw
              case rel =>
                refine ⟨j + 1, by go_num, HM.out, ?_, HNd.out.fr (Fr.setCell wd ⟨gs, z, none⟩ _) (fun e => HNE.out e.symm), HBd.out.trans ((Fr.setCell wd ⟨gs, z, none⟩ _).below HBd.out.size (fun i e => by have e' : i = gs := e; rw [e']; exact HSG.out))⟩
                rw [HTK.out]
                unfold give
                rw [Int.toNat_natCast, HQQ.out.1, HQQ.out.2]
                exact HUd.out.set z ((s0 + qq) % M64)
              case measure => have := HM.out; simp [intOf]; omega
            · obtain rfl : j = row.length := by omega
              clear hj hlj m1 m2 m3
              go_wp2
              go_roundw
              case rel => exact ⟨u + 1, by go_num, HJ.out, by rw [HST.out]; exact M1.out, M2.out, M3.out⟩
              case measure => have := HJ.out; simp [intOf]; omega
        · obtain rfl : u = n := by omega
          have HSU := Lib.hid (show (sumTo adj now u).length = u by rw [sumTo_len, ← HN.out])
          obtain ⟨S, hS⟩ : ∃ S, sumTo adj now u = S := ⟨_, rfl⟩
          have HSS := Lib.hid hS
          rw [hS] at K1 HSU
          have HLL := Lib.hid (show S.length = now.length by rw [HSU.out, HNL.out])
          clear hu hlu k1 k2 k3 hS
          go_wp2
          go_loopw [54] (fun v wi => ∃ t : Nat, v = .int .i64 (t : Int) ∧ t ≤ u ∧ UB wi g (mixTo S now t) ∧ UB wi gs S ∧ Below W.heap.size W wi) (fun v _ => u - (intOf v).toNat)
          case atStart => exact ⟨0, rfl, by omega, by have := K2.out; unfold mixTo; simpa using this, K1.out, K3.out⟩
          case round =>
            obtain ⟨t, rfl, ht, m1, m2, m3⟩ := hrel
            have M1 := Lib.hid m1
            have M2 := Lib.hid m2
            have M3 := Lib.hid m3
            by_cases hlt : t < u
            · have d0 := m2.cell (v := t) (by rw [HSU.out]; exact hlt)
              have hml : t < (mixTo S now t).length := by rw [mixTo_len HLL.out t (by rw [HSU.out]; omega), HNL.out]; exact hlt
              have d1 := m1.cell hml
              have f1 := m1.free hml
              obtain ⟨x, hx⟩ : ∃ x, at_ S t = x := ⟨_, rfl⟩
              rw [hx] at d0
              obtain ⟨y1, y2, v1, v2, v3⟩ := damped_wrap x
              have HX := Lib.hid hx
              have j1 : (t : Int) < (u : Int) := by omega
              have j2 : (t : Int) < 1000 := by have := HN2.out; omega
              have HT := Lib.hid hlt
              have HMS := Lib.hid (mixTo_succ HLL.out (k := t) (by rw [HSU.out]; exact hlt))
              clear ht m1 m2 m3 hml hx hlt
              go_wp2
              go_roundw
              case rel =>
                refine ⟨t + 1, by go_num, HT.out, ?_, M2.out.fr (Fr.setCell wr ⟨g, t, none⟩ _) (fun e => HNE.out e), M3.out.trans ((Fr.setCell wr ⟨g, t, none⟩ _).below M3.out.size (fun i e => by have e' : i = g := e; rw [e']; exact HG0.out))⟩
                rw [HMS.out, HX.out]
                exact M1.out.set t (damped x)
              case measure => have := HT.out; simp [intOf]; omega
            · obtain rfl : t = u := by omega
              have HFIN := Lib.hid (show mixTo S now t = ranks adj (k + 1) by
                show _ = nextRT adj (ranks adj k)
                rw [HNW.out]
                unfold mixTo nextRT
                rw [← HN.out, HSS.out, List.take_of_length_le (by rw [HSU.out]; exact Nat.le_refl _), List.drop_eq_nil_of_le (by rw [HNL.out]; exact Nat.le_refl _), List.append_nil])
              clear ht hlt m1 m2 m3
              go_wp2
              go_roundw
              case rel => exact ⟨k + 1, by go_num, HK.out, HFIN.out ▸ M1.out, M3.out⟩
              case measure => have := HK.out; simp [intOf]; omega
    · obtain rfl : k = r := by omega
      clear hu hb hk hlt
      go_wp2
      go_ret
      exact ⟨g, rfl, HU.out, Nat.le_trans HBW.out.size HG0.out, HBW.out.trans (HB.out.mono HBW.out.size)⟩
end Go.Proofs.Ytpmgkmodpneiiaa.E
