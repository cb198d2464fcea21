/- cores: those that stay, round by round. Conditions: those that each theorem names. -/
import Derived.Test.YtpmgkmodpneiiaaLbl
namespace Go.Proofs.Ytpmgkmodpneiiaa.E
open Go.RowKit Go.Sort Go.Shelf
open Go.Proofs.Ytpmgkmodpneiiaa.Ma
set_option linter.unusedVariables false
set_option linter.unusedSimpArgs false
def isOne : Value → Bool
  | .int .u64 x => x == 1
  | _ => false
def onesIn (w : World) (g : Nat) : Nat := match w.heap[g]? with
  | some (.cells cs _ _) => cs.toList.countP isOne
  | _ => 0
theorem onesIn_ub {w : World} {g : Nat} {out : List Nat} (h : UB w g out) : onesIn w g = out.count 1 := by
  unfold onesIn
  rw [h]
  simp only [uC]
  rw [List.countP_map, List.count]
  congr 1
  funext x
  show ((x : Int) == 1) = (x == 1)
  by_cases e : x = 1
  · rw [e]; decide
  · have : (x : Int) ≠ 1 := fun q => e (by omega)
    rw [beq_eq_false_iff_ne.2 this, beq_eq_false_iff_ne.2 e]
theorem degN_take {out : List Nat} {r : List Int} {j : Nat} {x : Int} (h : r[j]? = some x) : degN out (r.take (j + 1)) = degN out (r.take j) + at_ out x.toNat := by
  rw [List.take_add_one, h, degN_append]
  simp [degN]
theorem zero_take {g out : List Nat} {j x : Nat} (h : g[j]? = some x) : zeroAt (g.take (j + 1)) out = (zeroAt (g.take j) out).set x 0 := by
  unfold zeroAt
  rw [List.take_add_one, h, List.foldl_append]
  rfl
theorem zero_bits {g out : List Nat} (h : Bits out) : Bits (zeroAt g out) := by
  unfold zeroAt
  refine fold_inv0 (fun _ o => Bits o) g out h (fun _ o x ho _ => ?_)
  intro v hv
  rw [at_set2]
  split
  · omega
  · exact ho v (by simpa using hv)
section
variable {ops : Array Oper} {rest : List Oper} {o : Oper} {a : Act} {Q : Exit → Act → World → Prop} {w : World}
/-- One number more onto a row of the call's own. -/
theorem wp_appN (hgd : o.guard = none) (s x : Operand) (ho : o.op = .call { callee := .builtin .append, args := #[s, x], argTypes := #[54, 54] })
    (B : Nat) (L : List Int) (y : Int) (v : Value) (hs : a.eval s = v) (hown : w.ownsRow B 3 1 v L.length (cellsK encI L)) (b : Nat) (hx : a.eval x = .slice (some ⟨b, 0, none⟩) 1 1) (hb : w.heap[b]? = some (.cells #[.int .i64 y] 3 (0, 0)))
    (hlen : L.length ≤ 1000000) (hB : B ≤ w.heap.size)
    (h : ∀ A c w', w'.ownsRow B 3 1 (.slice A (L ++ [y]).length c) (L ++ [y]).length (cellsK encI (L ++ [y])) → Fr (fun k => v.ownBlock = some k) w w' → (∀ g, (Value.slice A (L ++ [y]).length c).ownBlock = some g → v.ownBlock = some g ∨ w.heap.size ≤ g) →
      wpList Try.prog ops Q rest (a.put o.dst (.slice A (L ++ [y]).length c)) w') : wpList Try.prog ops Q (o :: rest) a w := by
  obtain ⟨i0, hi, hz0, hz1, hz2⟩ := info_parts info3'
  refine wpList_append_own_at _ hgd s x 54 ho B 3 i0 _ 1 8 Try.underlying54 hi hz0 hz1 hz2 rfl (by decide) v L.length (cellsK encI L) hs hown ⟨b, 0, none⟩ 1 1 [.int .i64 y] hx rfl (World.news_of_block hb) (by simp [Value.oneCell']) (by unfold maxLen; omega) (by omega) hB ?_
  intro v' w' h1 h2 h3 h4
  have h1' : w'.ownsRow B 3 1 v' (L ++ [y]).length (cellsK encI (L ++ [y])) := by
    rw [cellsK_append, cellsK_one, List.length_append]
    exact h1
  obtain ⟨A, c, rfl, _, _⟩ := row_open encI_len h1'
  refine h A c w' h1' (Fr.of_grownR h2) (fun g hg => ?_)
  rcases h4 with e | e
  · exact .inl (e ▸ hg)
  · rw [hg] at e
    cases e
    exact .inr (Nat.le_refl _)
end
theorem gone_len (adj : List (List Int)) (k : Nat) (out : List Nat) (j : Nat) : (goneTo adj k out j).length ≤ j := by
  unfold goneTo
  exact Nat.le_trans (List.length_filter_le _ _) (by simp)
theorem ints_len (L : List Nat) : (ints L).length = L.length := by simp [ints]
theorem ints_snoc (L : List Nat) (j : Nat) : ints (L ++ [j]) = ints L ++ [(j : Int)] := by simp [ints]
theorem own_apart {w : World} {B n c m g : Nat} {A : Option Addr} {xs : List Value} (h : w.ownsRow B 3 1 (.slice A n c) m xs) (hne : (Value.slice A n c).ownBlock ≠ some g) : ∀ b o, A = some ⟨b, o, none⟩ → ¬ b = g := by
  intro b o e hb
  subst hb
  rcases h.2 with ⟨e1, _⟩ | ⟨g', cap, cur, e1, _⟩
  · cases e1; cases e
  · cases e1
    cases e
    exact hne rfl
theorem cor_stop {adj : List (List Int)} {k f many : Nat} {out : List Nat} (h : goneOf adj k out = []) : corGo adj k (f + 1) (out, many) = (out, many) := by
  unfold corGo; rw [if_pos h]
theorem cor_go {adj : List (List Int)} {k f many : Nat} {out : List Nat} (h : goneOf adj k out ≠ []) : corGo adj k (f + 1) (out, many) = corGo adj k f (zeroAt (goneOf adj k out) out, many + 1) := by
  rw [corGo]; rw [if_neg h]
theorem small_wrap {y : Nat} (h : y ≤ 1) : IntKind.i64.wrap (y : Int) = (y : Int) := IntWalk.i64_in _ ⟨by omega, by omega⟩
theorem add_wrap {d y : Nat} (hd : d ≤ 100000) (h : y ≤ 1) : RowKit.wrap64 ((d : Int) + (y : Int)) = ((d + y : Nat) : Int) := by rw [IntWalk.wrap64_in _ ⟨by omega, by omega⟩]; omega
theorem add_wrap2 {d y : Nat} (hd : d ≤ 100000) (h : y ≤ 1) : IntKind.i64.wrap ((d : Int) + (y : Int)) = ((d + y : Nat) : Int) := by rw [IntWalk.i64_in _ ⟨by omega, by omega⟩]; omega
theorem deg_bound {out : List Nat} {row : List Int} {m : Nat} (h : degN out (row.take m) ≤ (row.take m).length) (hl : row.length ≤ 100000) : degN out (row.take m) ≤ 100000 := by
  rw [List.length_take] at h
  omega
set_option maxRecDepth 100000 in
set_option maxHeartbeats 4000000 in
theorem cores_at (B q n k : Nat) (x : Value) (U : List Value) (adj : List (List Int)) (w : World) (hG : Grid B w q U adj) (hr : Rows adj) (hn : n = adj.length) (hn1 : 1 ≤ n) (hn2 : n ≤ 256) (hlen : ∀ r ∈ adj, r.length ≤ 100000) (hk : k ≤ 100000) (P0 c0 : Nat) (hx : x = .slice (some ⟨P0, 0, none⟩) n c0) :
    Calls Try.prog 35 #[.agg #[.int .i64 (n : Int), x, .slice (some ⟨q, 0, none⟩) n n], .int .i64 (k : Int)] w fun e w' => ∃ g, e = .returned (.tuple #[.slice (some ⟨g, 0, none⟩) n n, .int .i64 ((cores adj k).2 : Nat)]) ∧ UB w' g (cores adj k).1 ∧ w.heap.size ≤ g ∧ Below w.heap.size w w' := by
  subst hx
  have HG := Lib.hid hG
  have HR := Lib.hid hr
  have HN := Lib.hid hn
  have HN1 := Lib.hid hn1
  have HN2 := Lib.hid hn2
  have HLEN := Lib.hid hlen
  have HKK := Lib.hid hk
  obtain ⟨W, hW, gW, hbl, hsz⟩ := box_new w (.cells #[.int .i64 (n : Int), .slice (some ⟨P0, 0, none⟩) n c0, .slice (some ⟨q, 0, none⟩) n n] 66 (0, 0))
  have HF := Lib.hid (fill_ub 1 n hn1 hn2 W)
  have b0 : W.cell? ⟨w.heap.size, 0, none⟩ = some (.int .i64 (n : Int)) := cell_of_heap (i := 0) gW rfl
  have b2 : W.cell? ⟨w.heap.size, 2, none⟩ = some (.slice (some ⟨q, 0, none⟩) n n) := cell_of_heap (i := 2) gW rfl
  have HBW := Lib.hid hbl
  have HGQ := Lib.hid (hG.below hbl)
  clear hG hr hn hn1 hn2 hlen hk gW hbl hsz
  go_enter Try.func35, Try.ntmps35
  go_wp2_with (go_at_call 47; refine HF.out.mono ?_; rintro e w1 ⟨g, rfl, hg, hg0, hb1⟩; have HG1 := Lib.hid hg; have HG0 := Lib.hid hg0; have HB1 := Lib.hid hb1; clear hg hg0 hb1)
  have HST := Lib.hid (show ∃ (f many : Nat) (out : List Nat), (.int .i64 0 : Value) = .int .i64 (many : Int) ∧ corGo adj k f (out, many) = cores adj k ∧ out.count 1 < f ∧ many + f ≤ n + 1 ∧ UB w1 g out ∧ Bits out ∧ out.length = n ∧ Below W.heap.size W w1 from
    ⟨n + 1, 0, List.replicate n 1, rfl, by unfold cores; rw [← HN.out], by simp, by omega, HG1.out, fun v hv => by simp at hv; simp [at_, List.getD, hv], by simp, HB1.out⟩)
  go_loopw [7] (fun v wr => ∃ (f many : Nat) (out : List Nat), v = .int .i64 (many : Int) ∧ corGo adj k f (out, many) = cores adj k ∧ out.count 1 < f ∧ many + f ≤ n + 1 ∧ UB wr g out ∧ Bits out ∧ out.length = n ∧ Below W.heap.size W wr) (fun _ wr => onesIn wr g)
  case atStart => exact HST.out
  case round =>
    obtain ⟨f, many, out, rfl, h1, h2, h3, h4, h5, h6, h7⟩ := hrel
    obtain ⟨f1, rfl⟩ : ∃ f1, f = f1 + 1 := ⟨f - 1, by omega⟩
    have H1 := Lib.hid h1
    have H2 := Lib.hid h2
    have H3 := Lib.hid h3
    have H4 := Lib.hid h4
    have H5 := Lib.hid h5
    have H6 := Lib.hid h6
    have H7 := Lib.hid h7
    have b0c := keep_cell b0 h7
    have HON := Lib.hid (onesIn_ub h4)
    clear h1 h2 h3 h4 h5 h6 h7
    go_wp2
    go_loopw [8, 20] (fun v i wi => ∃ j : Nat, i = .int .i64 (j : Int) ∧ j ≤ n ∧ wi.ownsRow W.heap.size 3 1 v (ints (goneTo adj k out j)).length (cellsK encI (ints (goneTo adj k out j))) ∧ v.ownBlock ≠ some g ∧ UB wi g out ∧ Below W.heap.size W wi) (fun _ i _ => n - (intOf i).toNat)
    case atStart => exact ⟨0, rfl, by omega, World.ownsRow_nil _ _ _ _, by simp [Value.ownBlock], H4.out, H7.out⟩
    case round =>
      obtain ⟨j, rfl, hj, k1, k2, k3, k4⟩ := hrel
      have K1 := Lib.hid k1
      have K2 := Lib.hid k2
      have K3 := Lib.hid k3
      have K4 := Lib.hid k4
      by_cases hlj : j < n
      · have hba : Below w.heap.size w wr := HBW.out.trans (k4.mono HBW.out.size)
        obtain ⟨row, hrow⟩ : ∃ row, adj[j]? = some row := ⟨_, List.getElem?_eq_getElem (by rw [← HN.out]; exact hlj)⟩
        have hgd : adj.getD j [] = row := by rw [List.getD_eq_getElem?_getD, hrow]; rfl
        obtain ⟨v0, hv0, hown, c1w, hk2⟩ := HG.out.row_at hrow
        have c1 := keep_cell c1w hba
        obtain ⟨A0, k0, rfl, hk0, hk1⟩ := row_open encI_len hown
        have HL := Lib.hid (row_lies encI_len hown)
        have HRL := Lib.hid (HLEN.out row (List.mem_of_getElem? hrow))
        have HV := Lib.hid (show ∀ x ∈ row, 0 ≤ x ∧ x.toNat < n from fun x hx => by
          have := HR.out row (List.mem_of_getElem? hrow) x hx
          have := HN.out
          omega)
        have b2c := keep_cell b2 k4
        have e0 := k3.cell (v := j) (by rw [H6.out]; exact hlj)
        have i1 : (j : Int) < (n : Int) := by omega
        have i2 : (j : Int) < 1000 := by have := HN2.out; omega
        have HMD := Lib.hid hgd
        have HJ := Lib.hid hlj
        have HBA := Lib.hid hba
        have HDL := Lib.hid (fun i => degN_le H5.out H6.out (row.take i) (fun x hx => (HV.out x (List.mem_of_mem_take hx)).2))
        have HGT := Lib.hid (goneTo_succ adj k out j)
        clear c1w k1 k2 k3 k4 hrow hgd hv0 hown hk0 hk1 hk2 hj hlj hba
        go_wp2
        go_loopw [10, 29] (fun d i wi => ∃ m : Nat, i = .int .i64 (m : Int) ∧ m ≤ row.length ∧ d = .int .i64 (degN out (row.take m) : Nat) ∧ wi = wr) (fun _ i _ => row.length - (intOf i).toNat)
        case atStart => exact ⟨0, rfl, by omega, rfl, rfl⟩
        case round =>
          obtain ⟨m, rfl, hm, rfl, rfl⟩ := hrel
          have HDM := Lib.hid (HDL.out m)
          by_cases hlm : m < row.length
          · obtain ⟨x, hx⟩ : ∃ x, row[m]? = some x := ⟨_, List.getElem?_eq_getElem hlm⟩
            obtain ⟨bx, ox, e, _, hc⟩ := lies1 (HL.out.below HBA.out (Nat.le_refl _)) hx
            subst e
            obtain ⟨z, rfl⟩ : ∃ z : Nat, x = (z : Int) := ⟨x.toNat, by have := (HV.out x (List.mem_of_getElem? hx)).1; omega⟩
            have hz : z < n := by have := (HV.out _ (List.mem_of_getElem? hx)).2; simpa using this
            have d0 := K3.out.cell (v := z) (by rw [H6.out]; exact hz)
            have HTK := Lib.hid (degN_take (out := out) hx)
            obtain ⟨y, hy⟩ : ∃ y, at_ out z = y := ⟨_, rfl⟩
            have hy1 : y ≤ 1 := by rw [← hy]; exact H5.out z (by rw [H6.out]; exact hz)
            obtain ⟨d, hd⟩ : ∃ d, degN out (row.take m) = d := ⟨_, rfl⟩
            have hd1 : d ≤ 100000 := hd ▸ deg_bound HDM.out HRL.out
            have HYD := Lib.hid (And.intro hy hd)
            rw [hy] at d0
            rw [hd]
            have j1 : (m : Int) < (row.length : Int) := by omega
            have j2 : (m : Int) < 100000 := by have := HRL.out; omega
            have j3 : (z : Int) < (n : Int) := by omega
            have v3 := small_wrap hy1
            have v4 := add_wrap hd1 hy1
            have v5 := add_wrap2 hd1 hy1
            have HM := Lib.hid hlm
            clear hx hz hy hd hm hlm
            go_wp2
            go_roundw
            case rel => exact ⟨m + 1, by go_num, HM.out, by rw [HTK.out, Int.toNat_natCast, HYD.out.1, HYD.out.2]; exact congrArg _ (Int.natCast_add d y).symm, trivial⟩
            case measure => have := HM.out; simp [intOf]; omega
          · obtain rfl : m = row.length := by omega
            rw [List.take_length] at HDM ⊢
            have hdb : degN out row ≤ 100000 := Nat.le_trans HDM.out HRL.out
            have hgt := HGT.out
            rw [HMD.out] at hgt
            have HG2 := Lib.hid hgt
            obtain ⟨d, hd⟩ : ∃ d, degN out row = d := ⟨_, rfl⟩
            rw [hd] at hdb hgt ⊢
            have HDD := Lib.hid hd
            have hb1 : at_ out j ≤ 1 := H5.out j (by rw [H6.out]; exact HJ.out)
            clear hm hlm hd
            by_cases hy : at_ out j = 1
            · rw [hy] at e0
              have e1 : ((1 : Nat) : Int) = 1 := rfl
              rw [e1] at e0
              by_cases hdk : d < k
              · have l1 : (d : Int) < (k : Int) := by omega
                have l2 : decide ((d : Int) < (k : Int)) = true := decide_eq_true l1
                rw [if_pos ⟨hy, hdk⟩] at hgt
                have HG3 := Lib.hid hgt
                clear hgt hb1 hy e1 hdk hdb
                go_upto_region 13 with (fail)
                obtain ⟨w5, hw5, gw5, b5, s5⟩ := box_new wr (.cells #[.int .i64 (j : Int)] 3)
                have HR5 := Lib.hid ((Fr.of_below b5).row K1.out (fun _ _ e => e))
                have HGW5 := Lib.hid gw5
                have HB5 := Lib.hid (K4.out.trans (b5.mono K4.out.size))
                have HU5 := Lib.hid (K3.out.fr (Fr.of_below b5) (fun h => h))
                have HS5 := Lib.hid b5.size
                have HLB := Lib.hid (show (ints (goneTo adj k out j)).length ≤ 1000000 by rw [ints_len]; have := gone_len adj k out j; omega)
                clear gw5 b5 s5
                go_wp2_with (at_builtin; refine wp_appN rfl _ _ rfl W.heap.size (ints (goneTo adj k out j)) (j : Int) _ rfl HR5.out wr.heap.size rfl HGW5.out HLB.out HB5.out.size ?_; intro A6 c6 w6 h6r h6f h6l; have H6R := Lib.hid h6r; have H6F := Lib.hid h6f; have H6L := Lib.hid h6l; clear h6r h6f h6l)
                go_roundw
                case rel =>
                  refine ⟨j + 1, by go_num, HJ.out, ?_, ?_, HU5.out.fr H6F.out (fun e => K2.out e), ?_⟩
                  · rw [HG3.out, ints_snoc]
                    have h := H6R.out
                    simp only [List.length_append, List.length_cons, List.length_nil] at h ⊢
                    exact h
                  · intro e
                    rcases H6L.out g (by rw [List.length_append]; exact e) with h | h
                    · exact K2.out h
                    · have := HU5.out.lt; omega
                  · exact HB5.out.trans (H6F.out.below HB5.out.size (fun b hb => (HR5.out.lt b hb).1))
                case measure => have := HJ.out; simp [intOf]; omega
              · have l1 : ¬ ((d : Int) < (k : Int)) := by omega
                have l2 : decide ((d : Int) < (k : Int)) = false := decide_eq_false l1
                rw [if_neg (fun q => hdk q.2), List.append_nil] at hgt
                have HG3 := Lib.hid hgt
                clear hgt hb1 hy e1 hdk hdb
                go_wp2
                go_roundw
                case rel => exact ⟨j + 1, by go_num, HJ.out, by rw [HG3.out]; exact K1.out, K2.out, K3.out, K4.out⟩
                case measure => have := HJ.out; simp [intOf]; omega
            · have hy0 : at_ out j = 0 := by omega
              rw [hy0] at e0
              have e1 : ((0 : Nat) : Int) = 0 := rfl
              rw [e1] at e0
              rw [if_neg (fun q => hy q.1), List.append_nil] at hgt
              have HG3 := Lib.hid hgt
              clear hgt hb1 hy hy0 e1 hdb
              go_wp2
              go_roundw
              case rel => exact ⟨j + 1, by go_num, HJ.out, by rw [HG3.out]; exact K1.out, K2.out, K3.out, K4.out⟩
              case measure => have := HJ.out; simp [intOf]; omega
      · obtain rfl : j = n := by omega
        have hgo : goneTo adj k out j = goneOf adj k out := by unfold goneOf; rw [← HN.out]
        have HGO := Lib.hid hgo
        have hr8 := k1
        obtain ⟨A8, c8, rfl, hc8, hm8⟩ := row_open encI_len k1
        clear k1 k2 k3 k4 hlj hj hgo hr8
        obtain ⟨G, hG⟩ : ∃ G, goneTo adj k out j = G := ⟨_, rfl⟩
        have HGG := Lib.hid hG
        rw [hG] at K1 K2 hc8 ⊢
        clear hG
        obtain ⟨m, hm⟩ : ∃ m, (ints G).length = m := ⟨_, rfl⟩
        have HM := Lib.hid hm
        rw [hm] at hc8 ⊢
        have HAP := Lib.hid (own_apart K1.out K2.out)
        have HLI := Lib.hid (row_lies encI_len K1.out)
        have HGOF := Lib.hid (show goneOf adj k out = G from HGO.out ▸ HGG.out)
        have hml : m ≤ 1000 := by
          have := gone_len adj k out j
          have := HN2.out
          rw [← hm, ints_len, ← HGG.out]
          omega
        clear hm
        by_cases hG0 : m = 0
        · subst hG0
          have HNIL := Lib.hid (show goneOf adj k out = [] by rw [HGOF.out]; have := HM.out; rw [ints_len] at this; exact List.length_eq_zero_iff.1 this)
          have HC := Lib.hid ((cor_stop HNIL.out).symm.trans H1.out)
          go_wp2
          exact bodyPost_ret (v := .tuple #[.slice (some ⟨g, 0, none⟩) j j, .int .i64 (many : Int)]) (by simp [results, Try.results35, go_sem]) rfl ⟨g, by rw [← HC.out], by rw [← HC.out]; exact K3.out, Nat.le_trans HBW.out.size HG0.out, HBW.out.trans (K4.out.mono HBW.out.size)⟩
        · have hne : ((m : Int) == 0) = false := by
            have : (m : Int) ≠ 0 := by omega
            simpa using this
          have HG0' := Lib.hid (show G ≠ [] from fun e => hG0 (by rw [← HM.out, e]; rfl))
          have HMANY := Lib.hid (show many + 1 ≤ 1000 by have := H3.out; have := HN2.out; omega)
          clear hG0
          go_wp2
          go_loopw [63] (fun i wi => ∃ t : Nat, i = .int .i64 (t : Int) ∧ t ≤ m ∧ UB wi g (zeroAt (G.take t) out) ∧ Lies encI 1 wi A8 (ints G) ∧ Below W.heap.size W wi) (fun i _ => m - (intOf i).toNat)
          case atStart => exact ⟨0, rfl, by omega, K3.out, HLI.out, K4.out⟩
          case round =>
            obtain ⟨t, rfl, ht, k1, k2, k3⟩ := hrel
            have J1 := Lib.hid k1
            have J2 := Lib.hid k2
            have J3 := Lib.hid k3
            by_cases hlt : t < m
            · obtain ⟨x, hx⟩ : ∃ x, G[t]? = some x := ⟨_, List.getElem?_eq_getElem (by rw [← ints_len, HM.out]; exact hlt)⟩
              obtain ⟨bx, ox, e, _, hc⟩ := lies1 k2 (j := t) (x := (x : Int)) (by unfold ints; rw [List.getElem?_map, hx]; rfl)
              subst e
              have hxj : x < j := by
                have hmem : x ∈ goneOf adj k out := HGOF.out ▸ List.mem_of_getElem? hx
                have := (mem_gone.1 hmem).1
                have := HN.out
                omega
              have hxl : x < (zeroAt (G.take t) out).length := by rw [zeroAt_len, H6.out]; exact hxj
              have d0 := k1.cell hxl
              have d1 := k1.free hxl
              have j1 : (t : Int) < (m : Int) := by omega
              have j2 : (t : Int) < 1000 := by omega
              have j3 : (x : Int) < (j : Int) := by omega
              have HZ := Lib.hid (zero_take (out := out) hx)
              have HT := Lib.hid hlt
              clear hx hxj hxl k1 k2 k3 ht hlt
              go_wp2
              go_roundw
              case rel =>
                refine ⟨t + 1, by go_num, HT.out, by rw [HZ.out]; exact J1.out.set x 0, J2.out.fr (Fr.setCell wr ⟨g, x, none⟩ _) (fun b o e => HAP.out b o e), J3.out.trans ((Fr.setCell wr ⟨g, x, none⟩ _).below J3.out.size (fun i e => by have e' : i = g := e; rw [e']; exact HG0.out))⟩
              case measure => have := HT.out; simp [intOf]; omega
            · obtain rfl : t = m := by omega
              have HZ := Lib.hid (show zeroAt (G.take t) out = zeroAt G out by rw [List.take_of_length_le (by rw [← ints_len, HM.out]; exact Nat.le_refl _)])
              have HD := Lib.hid (count_drop (out := out) HG0'.out (fun v hv => by rw [← HGOF.out] at hv; exact (mem_gone.1 hv).2.1) (fun v hv => by rw [← HGOF.out] at hv; have := (mem_gone.1 hv).1; rw [H6.out, HN.out]; exact this))
              have HC := Lib.hid (show corGo adj k f1 (zeroAt G out, many + 1) = cores adj k by
                have := cor_go (f := f1) (many := many) (fun e => HG0'.out (HGOF.out ▸ e) : goneOf adj k out ≠ [])
                rw [H1.out, HGOF.out] at this
                exact this.symm)
              have HON2 := Lib.hid (onesIn_ub k1)
              have j2 : (many : Int) < 1000 := by have := HMANY.out; omega
              clear k1 k2 k3 ht hlt
              go_wp2
              go_roundw
              case rel =>
                refine ⟨f1, many + 1, zeroAt G out, by go_num, HC.out, by have := HD.out; have := H2.out; omega, by have := H3.out; omega, HZ.out ▸ J1.out, zero_bits H5.out, by rw [zeroAt_len]; exact H6.out, J3.out⟩
              case measure =>
                rw [HON2.out, HON.out, HZ.out]
                exact HD.out
end Go.Proofs.Ytpmgkmodpneiiaa.E
