/- shards.Edges walked. Conditions: those that the theorem names. -/
import Derived.Test.YtdlmkdldmiiaiaaBck
namespace Go.Proofs.Ytdlmkdldmiiaiaa.E
open Go.RowKit Go.Sort Go.Shelf
open Go.Proofs.Ytdlmkdldmiiaiaa.Ma Go.Proofs.Ytdlmkdldmiiaiaa.By Go.Proofs.Ytdlmkdldmiiaiaa.Enc
set_option linter.unusedVariables false
set_option linter.unusedSimpArgs false
/-- A shard's edges, in order. -/
def edgesO : Int → List (List Int) → List Ed
  | _, [] => []
  | v, L :: r => (L.map fun y => (v, y)) ++ edgesO (v + 1) r
theorem edgesO_snoc (L : List Int) : ∀ (O : List (List Int)) (v : Int), edgesO v (O ++ [L]) = edgesO v O ++ L.map fun y => (v + (O.length : Int), y)
  | [], v => by simp [edgesO]
  | M :: r, v => by
    rw [List.cons_append, edgesO, edgesO, edgesO_snoc L r, List.append_assoc, List.length_cons]
    congr 2
    refine List.map_congr_left fun y _ => ?_
    congr 1
    push_cast
    omega
theorem edgesO_len : ∀ (O : List (List Int)) (v : Int), (edgesO v O).length = manyC O
  | [], _ => rfl
  | L :: r, v => by
    rw [edgesO, List.length_append, List.length_map, edgesO_len r]
    unfold manyC
    simp
theorem edgesO_take {O : List (List Int)} {k : Nat} {L : List Int} (v : Int) (h : O[k]? = some L) : edgesO v (O.take (k + 1)) = edgesO v (O.take k) ++ L.map fun y => (v + (k : Int), y) := by
  have hk := (List.getElem?_eq_some_iff.1 h).1
  rw [List.take_add_one, h, Option.toList_some, edgesO_snoc, List.length_take, Nat.min_eq_left (by omega)]
theorem map_take {L : List Int} {j : Nat} {y : Int} (v : Int) (h : L[j]? = some y) : ((L.take j).map fun y => (v, y)) ++ [(v, y)] = (L.take (j + 1)).map fun y => (v, y) := by
  rw [List.take_add_one, h, Option.toList_some, List.map_append]
  rfl
theorem row_low {w : World} {B C n : Nat} {e k : Nat} {v : Value} {xs : List Value} (h : w.ownsRow C e k v n xs) (hB : B ≤ C) : w.ownsRow B e k v n xs := by
  refine ⟨h.1, h.2.imp_right fun ⟨g, cap, cur, h1, h2, h3⟩ => ⟨g, cap, cur, h1, Nat.le_trans hB h2, h3⟩⟩
set_option maxRecDepth 100000 in
set_option maxHeartbeats 4000000 in
theorem edges_at (lo hi : Int) (A : Option Addr) (c : Nat) (O : List (List Int)) (w : World) (hL : LiesR w A O) (h0 : 0 ≤ lo ∧ lo ≤ 256) (hl : O.length ≤ 256) (hm : manyC O ≤ 4096) :
    Calls Try.prog 22 #[shV lo hi A O.length c] w fun e w' => ∃ A' c', e = .returned (.slice A' (edgesO lo O).length c') ∧ w'.ownsRow w.heap.size 41 2 (.slice A' (edgesO lo O).length c') (edgesO lo O).length (cellsK enc2 (edgesO lo O)) ∧ Below w.heap.size w w' := by
  obtain ⟨W, hW, g0, g1, g2, hbW, hsW⟩ := box28 w lo hi A O.length c
  have gW : Box3 W w.heap.size lo hi (.slice A O.length c) := by rw [← hW]; exact heap_alloc_new w _
  unfold shV
  have HL := Lib.hid (hL.below hbW (Nat.le_refl _))
  have HB := Lib.hid hbW
  have HG := Lib.hid gW
  have HM := Lib.hid hm
  have HLO := Lib.hid (And.intro h0 hl)
  have HLT := Lib.hid (show w.heap.size < W.heap.size by omega)
  clear hL hl hm hbW hsW gW
  go_enter Try.func22, Try.ntmps22
  go_wp2
  clear g0 g1 g2
  go_loopw [3, 11] (fun s i wi => ∃ (k : Nat) (A' : Option Addr) (c' : Nat) (K : List Ed), i = .int .i64 (k : Int) ∧ k ≤ O.length ∧ s = .slice A' K.length c' ∧ K = edgesO lo (O.take k) ∧ wi.ownsRow W.heap.size 41 2 (.slice A' K.length c') K.length (cellsK enc2 K) ∧ Below W.heap.size W wi) (fun _ i _ => O.length - (intOf i).toNat)
  case atStart => exact ⟨0, none, 0, [], rfl, by omega, rfl, rfl, World.ownsRow_nil _ _ _ _, Below.refl _ _⟩
  case round =>
    obtain ⟨k, A', c', K, rfl, hk, rfl, hK, hr, hb⟩ := hrel
    have HK := Lib.hid hK
    have HR := Lib.hid hr
    have HBr := Lib.hid hb
    clear hK hr
    by_cases hlt : k < O.length
    · obtain ⟨L, hx⟩ : ∃ p, O[k]? = some p := ⟨O[k], List.getElem?_eq_getElem _⟩
      obtain ⟨g, o, A1, c1, rfl, hg, hcell, k1, k2, hLi⟩ := liesR1 HL.out hx
      have i1 : (k : Int) < (O.length : Int) := by omega
      have HLi := Lib.hid hLi
      have hcell := (hb.cell (p := ⟨g, o + k, none⟩) hg).trans hcell
      have HKL := Lib.hid (edgesO_take lo hx)
      have hmk := manyC_le O (k + 1)
      have hmk2 := edgesO_len (O.take (k + 1)) lo
      have HBD := Lib.hid (show (edgesO lo (O.take k)).length + L.length ≤ 4096 by
        have := congrArg List.length HKL.out
        rw [List.length_append, List.length_map] at this
        have := HM.out
        omega)
      have HLT2 := Lib.hid hlt
      have gg := (Fr.of_below hb).keep HG.out (fun e => e)
      clear hx hg hLi k1 k2 hmk hmk2 hb hlt
      have b0 := HLO.out.1.1
      have b1 := HLO.out.1.2
      have b2 : (k : Int) ≤ 256 := by have := HLO.out.2; omega
      go_wp2
      go_loopw [3, 7, 18] (fun s q i wi => ∃ (j : Nat) (A6 : Option Addr) (c6 : Nat) (R : List Ed), i = .int .i64 (j : Int) ∧ j ≤ L.length ∧ s = .slice A6 R.length c6 ∧ R = K ++ (L.take j).map (fun y => (lo + (k : Int), y)) ∧ wi.ownsRow W.heap.size 41 2 (.slice A6 R.length c6) R.length (cellsK enc2 R) ∧ Below W.heap.size W wi) (fun _ _ i _ => L.length - (intOf i).toNat)
      case atStart => exact ⟨0, A', c', K, rfl, by omega, rfl, by simp, HR.out, HBr.out⟩
      case round =>
        obtain ⟨j, A6, c6, R, rfl, hj, rfl, hR, hr6, hbW⟩ := hrel
        have HRR := Lib.hid hR
        have HR6 := Lib.hid hr6
        have HBW := Lib.hid hbW
        have gg6 := (Fr.of_below hbW).keep HG.out (fun e => e)
        obtain ⟨r0, r1, r2, _, _, _⟩ := Box3.cells gg6
        clear hR hr6
        by_cases hjl : j < L.length
        · obtain ⟨y, hy⟩ : ∃ y, L[j]? = some y := ⟨L[j], List.getElem?_eq_getElem _⟩
          obtain ⟨g2, o2, rfl, hg2, q0⟩ := lies1 (HLi.out.below hbW (Nat.le_refl _)) hy
          have i2 : (j : Int) < (L.length : Int) := by omega
          have i3 : (j : Int) ≤ 4096 := by have := HBD.out; omega
          obtain ⟨R2, hR2⟩ : ∃ R2, R ++ [(lo + (k : Int), y)] = R2 := ⟨_, rfl⟩
          have H1 := Lib.hid hR2
          have HRe := Lib.hid (show R2 = K ++ (L.take (j + 1)).map (fun y => (lo + (k : Int), y)) by rw [← hR2, HRR.out, List.append_assoc, map_take _ hy])
          have HRm := Lib.hid (show R2.length ≤ 2000000 by
            have h := HBD.out
            rw [HRe.out, List.length_append, List.length_map, List.length_take, HK.out]
            omega)
          have HJ := Lib.hid hjl
          clear hy hg2 hR2 hbW gg6 gg hj hjl
          go_wp2_with (at_builtin; refine D.wp_app rfl _ _ rfl W.heap.size R [(lo + (k : Int), y)] R2 H1.out (.slice A6 R.length c6) rfl (HR6.out.alloc _) ⟨wr.heap.size, 0, none⟩ 1 1 rfl rfl (D.news_one (heap_alloc_new wr _)) HRm.out (Nat.le_trans HBW.out.size (by simp)) ?_; intro A7 c7 w7 hr7 hf7; have HO7 := Lib.hid hr7; have HBW7 := Lib.hid ((HBW.out.alloc HBW.out.size (.cells #[.int .i64 (lo + (k : Int)), .int .i64 y] 41)).trans (hf7.below (Nat.le_trans HBW.out.size (by simp)) (fun i e => (HR6.out.lt i e).1))); clear hr7 hf7)
          go_roundw
          case rel => exact ⟨j + 1, _, _, R2, by go_num, HJ.out, rfl, HRe.out, HO7.out, HBW7.out⟩
          case measure => have := HJ.out; simp [intOf]; omega
        · obtain rfl : j = L.length := by omega
          clear hbW gg6 hj hjl gg
          go_wp2
          go_roundw
          case rel => exact ⟨k + 1, A6, c6, R, by go_num, HLT2.out, rfl, by rw [HRR.out, List.take_length, HKL.out, HK.out], HR6.out, HBW.out⟩
          case measure => have := HLT2.out; simp [intOf]; omega
    · obtain rfl : k = O.length := by omega
      clear hk hlt hb
      have hKK := HK.out
      rw [List.take_length] at hKK
      subst hKK
      go_wp2
      go_ret
      exact ⟨_, _, rfl, row_low HR.out (by have := HLT.out; omega), HB.out.trans (HBr.out.mono HB.out.size)⟩
end Go.Proofs.Ytdlmkdldmiiaiaa.E
