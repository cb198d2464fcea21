/- EdgesDegrees, walked. Conditions: the pairs lie readable. -/
import Derived.Deep.CutBlock
import Derived.Test.YtfehlnmkeniniaaSom
import Derived.Test.YtfehlnmkeniniaaBak
namespace Go.Proofs.Ytfehlnmkeniniaa.E
open Go.RowKit Go.Sort Go.Shelf
open Go.Proofs.Ytfehlnmkeniniaa.Ma
set_option linter.unusedVariables false
set_option linter.unusedSimpArgs false
def sO (L : List Ed) : Nat → Int
  | 0 => 0
  | k + 1 => sO L k + degO L k
def sI (L : List Ed) : Nat → Int
  | 0 => 0
  | k + 1 => sI L k + degI L k
theorem degO_cons (x : Ed) (T : List Ed) (v : Int) : degO (x :: T) v = degO T v + (if x.1 = v then 1 else 0) := by
  unfold degO
  by_cases e : x.1 = v <;> simp [e]
theorem degI_cons (x : Ed) (T : List Ed) (v : Int) : degI (x :: T) v = degI T v + (if x.2 = v then 1 else 0) := by
  unfold degI
  by_cases e : x.2 = v <;> simp [e]
theorem sO_cons (x : Ed) (T : List Ed) : ∀ k : Nat, sO (x :: T) k = sO T k + (if 0 ≤ x.1 ∧ x.1 < k then 1 else 0)
  | 0 => by rw [if_neg (by omega)]; rfl
  | k + 1 => by
    unfold sO
    rw [sO_cons x T k, degO_cons]
    by_cases e : x.1 = (k : Int)
    · rw [if_pos e, if_neg (by omega), if_pos (by omega)]; omega
    · rw [if_neg e]
      by_cases h : 0 ≤ x.1 ∧ x.1 < (k : Int)
      · rw [if_pos h, if_pos (by omega)]; omega
      · rw [if_neg h, if_neg (by omega)]; omega
theorem sI_cons (x : Ed) (T : List Ed) : ∀ k : Nat, sI (x :: T) k = sI T k + (if 0 ≤ x.2 ∧ x.2 < k then 1 else 0)
  | 0 => by rw [if_neg (by omega)]; rfl
  | k + 1 => by
    unfold sI
    rw [sI_cons x T k, degI_cons]
    by_cases e : x.2 = (k : Int)
    · rw [if_pos e, if_neg (by omega), if_pos (by omega)]; omega
    · rw [if_neg e]
      by_cases h : 0 ≤ x.2 ∧ x.2 < (k : Int)
      · rw [if_pos h, if_pos (by omega)]; omega
      · rw [if_neg h, if_neg (by omega)]; omega
theorem sO_nil : ∀ k, sO [] k = 0
  | 0 => rfl
  | k + 1 => by unfold sO; rw [sO_nil k]; rfl
theorem sI_nil : ∀ k, sI [] k = 0
  | 0 => rfl
  | k + 1 => by unfold sI; rw [sI_nil k]; rfl
theorem sO_le (L : List Ed) (k : Nat) : 0 ≤ sO L k ∧ sO L k ≤ L.length := by
  induction L with
  | nil => rw [sO_nil]; simp
  | cons x T ih => rw [sO_cons, List.length_cons]; split <;> omega
theorem sI_le (L : List Ed) (k : Nat) : 0 ≤ sI L k ∧ sI L k ≤ L.length := by
  induction L with
  | nil => rw [sI_nil]; simp
  | cons x T ih => rw [sI_cons, List.length_cons]; split <;> omega
theorem sO_all (L : List Ed) (k : Nat) (h : ∀ x ∈ L, 0 ≤ x.1 ∧ x.1 < k) : sO L k = L.length := by
  induction L with
  | nil => rw [sO_nil]; rfl
  | cons x T ih => rw [sO_cons, List.length_cons, if_pos (h x List.mem_cons_self), ih (fun y hy => h y (List.mem_cons_of_mem _ hy))]; omega
theorem sI_all (L : List Ed) (k : Nat) (h : ∀ x ∈ L, 0 ≤ x.2 ∧ x.2 < k) : sI L k = L.length := by
  induction L with
  | nil => rw [sI_nil]; rfl
  | cons x T ih => rw [sI_cons, List.length_cons, if_pos (h x List.mem_cons_self), ih (fun y hy => h y (List.mem_cons_of_mem _ hy))]; omega
theorem degO_rvs (L : List Ed) (v : Int) : degO (rvs L) v = degI L v := by
  unfold degO degI
  rw [((rvs_perm L).filter _).length_eq, List.filter_map, List.length_map]
  rfl
theorem out_deg (L : List Ed) (v : Int) : ((outL L v).length : Int) = degO L v := by
  unfold outL degO
  rw [List.length_map]
/-- Out answers as many as begin there. -/
theorem c_outM {A : Option Addr} {c n m : Nat} {v : Int} {L : List Ed} {w : World} (hm : degO L v = (m : Int)) (hL : Lies enc2 2 w A L) (hn : L.length = n) (hlen : L.length ≤ 500000) : Calls Try.prog 14 #[.slice A n c, .int .i64 v] w fun e w' => ∃ A' c', e = .returned (.slice A' m c') ∧ Below w.heap.size w w' := by
  subst hn
  have e1 : (outL L v).length = m := by have := out_deg L v; rw [hm] at this; exact Int.ofNat.inj this
  exact (out_at A c v L w hL hlen).mono fun e w' ⟨A', c', he, _, hb⟩ => ⟨A', c', by rw [he, e1], hb⟩
theorem c_degN {A : Option Addr} {c N n : Nat} {L : List Ed} {w : World} (hN : 1 ≤ N ∧ N ≤ 256) (hL : Lies enc2 2 w A L) (hn : L.length = n) (hlen : L.length ≤ 500000) : Calls Try.prog 11 #[.int .i64 (N : Int), .slice A n c] w fun e w' => ∃ A1 c1 A2 c2, e = .returned (.tuple #[.slice A1 N c1, .slice A2 N c2]) ∧ Lies encI 1 w' A1 (dO N L) ∧ Lies encI 1 w' A2 (dI N L) ∧ Below w.heap.size w w' := by
  subst hn
  have hd : degC (N : Int) L = (dO N L, dI N L) := by unfold degC; rw [if_pos (by omega)]; rfl
  refine (deg_at A c (N : Int) L w hL hlen).mono fun e w' ⟨A1, c1, A2, c2, he, h1, h2, hb⟩ => ?_
  rw [hd] at he h1 h2
  dsimp only at he h1 h2
  exact ⟨A1, c1, A2, c2, by rw [he, dO_len, dI_len], row_lies encI_len h1, row_lies encI_len h2, hb⟩
theorem keep2 {V V' : World} {p q i j : Nat} {u v : Value} (hb : Below V.heap.size V V') (lp : p < V.heap.size) (lq : q < V.heap.size) (h : V.cell? ⟨p, i, none⟩ = some u ∧ V.cell? ⟨q, j, none⟩ = some v) : V'.cell? ⟨p, i, none⟩ = some u ∧ V'.cell? ⟨q, j, none⟩ = some v :=
  ⟨(hb.cell (p := ⟨p, i, none⟩) lp).trans h.1, (hb.cell (p := ⟨q, j, none⟩) lq).trans h.2⟩
set_option maxRecDepth 100000 in
set_option maxHeartbeats 8000000 in
theorem degs_at (A : Option Addr) (len cap : Nat) (x : Int) (P : List Ed) (w : World) (hx8 : 0 ≤ x ∧ x ≤ 255) (hl : len ≤ 400) (hlen : P.length = len) (hL : Lies enc8 2 w A P) (hb8 : ∀ p ∈ P, (0 ≤ p.1 ∧ p.1 ≤ 255) ∧ 0 ≤ p.2 ∧ p.2 ≤ 255) : Calls Try.prog 6 #[.int .u8 x, .slice A len cap] w fun e w' => e = .returned (.bool true) ∧ Below w.heap.size w w' := by
  subst hlen
  have h3 : ¬ (400 : Int) < P.length := by omega
  obtain ⟨r, hr⟩ : ∃ r, x.tmod 255 = r := ⟨_, rfl⟩
  have hr0 : 0 ≤ r ∧ r ≤ 254 := by rw [← hr, Int.tmod_eq_emod_of_nonneg hx8.1]; omega
  have hcx : IntKind.i64.wrap x = x := wrap8 hx8
  obtain ⟨N, hN⟩ : ∃ N : Nat, 2 + r = (N : Int) := ⟨(2 + r).toNat, by omega⟩
  have hN2 : 2 ≤ N ∧ N ≤ 256 := by omega
  have HN2 := Lib.hid (show 2 ≤ (N : Int) ∧ (N : Int) ≤ 256 by omega)
  have HN1 := Lib.hid (show 1 ≤ N ∧ N ≤ 256 by omega)
  have HL := Lib.hid hL
  have HB8 := Lib.hid hb8
  have HLen := Lib.hid hl
  obtain ⟨L, hLL⟩ : ∃ L, P.map (someE (N : Int)) = L := ⟨_, rfl⟩
  have HLL := Lib.hid hLL
  have HLl := Lib.hid (show L.length = P.length by rw [← hLL, List.length_map])
  have HL5 := Lib.hid (show L.length ≤ 500000 by rw [HLl.out]; omega)
  have HIn := Lib.hid (show ∀ y ∈ L, (0 ≤ y.1 ∧ y.1 < (N : Int)) ∧ 0 ≤ y.2 ∧ y.2 < (N : Int) from fun y hy => by
    rw [← hLL] at hy
    obtain ⟨p, _, rfl⟩ := List.mem_map.1 hy
    have := some_in p HN2.out.1
    exact ⟨⟨this.1, this.2.1⟩, this.2.2.1, this.2.2.2.1⟩)
  obtain ⟨R0, hR0⟩ : ∃ R, rvs L = R := ⟨_, rfl⟩
  have HR0 := Lib.hid hR0
  have LR := Lib.hid (show R0.length = P.length by rw [← hR0, rvs_len, HLl.out])
  have LR5 := Lib.hid (show R0.length ≤ 500000 by rw [LR.out]; omega)
  clear hL hb8 hLL hR0
  go_enter Try.func6, Try.ntmps6
  go_wp2_with (first
    | (go_at_call 16; refine (c_rev2 HR0.out Lb2.out HLl.out HL5.out).mono ?_; rintro e w3 ⟨Ar, cr, rfl, h1, _, hb⟩; have Lr3 := Lib.hid h1; have Lb3 := Lib.hid (lies_to Lb2.out hb); have Lo3 := Lib.hid (liesI_to Lo2.out hb); have Li3 := Lib.hid (liesI_to Li2.out hb); have BW3 := Lib.hid (Fresh.below BW2.out hb); clear h1 hb)
    | (go_at_call 11; refine (c_degN HN1.out Lb1.out HLl.out HL5.out).mono ?_; rintro e w2 ⟨Ao, co, Ai, ci, rfl, h1, h2, hb⟩; have Lo2 := Lib.hid h1; have Li2 := Lib.hid h2; have Lb2 := Lib.hid (lies_to Lb1.out hb); have BW2 := Lib.hid (Fresh.below BW1.out hb); clear h1 h2 hb)
    | (go_at_call 19; refine (c_some HLL.out HN2.out HL.out HB8.out HLen.out).mono ?_; rintro e w1 ⟨A1, c1, rfl, h1, hb⟩; have Lb1 := Lib.hid h1; have BW1 := Lib.hid hb; clear h1 hb))
  go_loopw [10, 11, 12] (fun a b i wr => ∃ (k : Nat) (s t : Int), k ≤ N ∧ i = .int .i64 k ∧ a = .int .i64 s ∧ b = .int .i64 t ∧ s = sO L k ∧ t = sI L k ∧ Below w3.heap.size w3 wr) (fun _ _ i _ => N - (intOf i).toNat)
  case atStart => exact ⟨0, 0, 0, by omega, rfl, rfl, rfl, rfl, rfl, Below.refl _ _⟩
  case round =>
    obtain ⟨k, s, t, hk, rfl, rfl, rfl, hs, ht, hb⟩ := hrel
    have HB := Lib.hid hb
    have hs0 : 0 ≤ s ∧ s ≤ 400 := by have := sO_le L k; rw [HLl.out] at this; rw [hs]; omega
    have ht0 : 0 ≤ t ∧ t ≤ 400 := by have := sI_le L k; rw [HLl.out] at this; rw [ht]; omega
    clear hb
    by_cases hlt : k < N
    · obtain ⟨m1, hm1⟩ : ∃ m : Nat, degO L k = (m : Int) := ⟨(degO L k).toNat, by have := degO_le L k; omega⟩
      obtain ⟨m2, hm2⟩ : ∃ m : Nat, degI L k = (m : Int) := ⟨(degI L k).toNat, by have := degI_le L k; omega⟩
      obtain ⟨bo, oo, rfl, lo, q0⟩ := lies1 (Lo3.out.below HB.out (Nat.le_refl _)) (dO_at L hlt)
      obtain ⟨bi, oi, rfl, li, q1⟩ := lies1 (Li3.out.below HB.out (Nat.le_refl _)) (dI_at L hlt)
      rw [hm1] at q0
      rw [hm2] at q1
      have b1 : m1 ≤ 400 := by have := degO_le L k; rw [HLl.out] at this; omega
      have b2 : m2 ≤ 400 := by have := degI_le L k; rw [HLl.out] at this; omega
      have HS := Lib.hid (show s + (m1 : Int) = sO L (k + 1) by unfold sO; rw [hs, hm1])
      have HT := Lib.hid (show t + (m2 : Int) = sI L (k + 1) by unfold sI; rw [ht, hm2])
      have HM1 := Lib.hid hm1
      have HM2 := Lib.hid (show degO R0 k = (m2 : Int) by rw [← HR0.out, degO_rvs, hm2])
      have LO := Lib.hid lo
      have LI := Lib.hid li
      have LbW := Lib.hid (Lb3.out.below HB.out (Nat.le_refl _))
      have LrW := Lib.hid (Lr3.out.below HB.out (Nat.le_refl _))
      have i1 : (k : Int) < (N : Int) := by omega
      clear hm1 hm2 hs ht lo li
      go_wp2
      go_region_held3 (fun w' => w'.cell? ⟨bo, oo + k, none⟩ = some (.int .i64 m1) ∧ w'.cell? ⟨bi, oi + k, none⟩ = some (.int .i64 m2))
        (first | go_keep | exact keep2 hb7 (Nat.lt_of_lt_of_le LO.out hb6.size) (Nat.lt_of_lt_of_le LI.out hb6.size) (by assumption) | exact keep2 hb6 LO.out LI.out (by assumption))
        ((first
          | (go_at_call 14; refine (c_outM HM2.out (LrW.out.below hb6 (Nat.le_refl _)) LR.out LR5.out).mono ?_; rintro e w7 ⟨A7, c7, rfl, hb7⟩)
          | (go_at_call 14; refine (c_outM (w := wr.drewN 1) HM1.out (lies_to LbW.out (below_drew wr 1)) HLl.out HL5.out).mono ?_; rintro e w6 ⟨A6, c6, rfl, hb60⟩; have hb6 := Fresh.below (below_drew wr 1) hb60)))
      all_goals
        have HB7 := Lib.hid (Fresh.below HB.out (Fresh.below hb6 hb7))
        clear hb6 hb7
        go_wp2
        go_roundw
        case rel => exact ⟨k + 1, s + m1, t + m2, by omega, by go_num, by go_num, by go_num, HS.out, HT.out, HB7.out⟩
        case measure => simp [intOf]; omega
    · obtain rfl : k = N := by omega
      have e1 : s = (P.length : Int) := by rw [hs, sO_all L k (fun y hy => (HIn.out y hy).1), HLl.out]
      have e2 : t = (P.length : Int) := by rw [ht, sI_all L k (fun y hy => (HIn.out y hy).2), HLl.out]
      have BWr := Lib.hid (Fresh.below BW3.out HB.out)
      clear hs ht hs0 ht0
      subst e1 e2
      go_wp2_with (go_at_call 18; refine (does_at wr).mono ?_; rintro e w14 ⟨rfl, hb⟩; have BW14 := Lib.hid (Fresh.below BWr.out hb); clear hb)
      go_ret
      exact ⟨rfl, BW14.out⟩
end Go.Proofs.Ytfehlnmkeniniaa.E
