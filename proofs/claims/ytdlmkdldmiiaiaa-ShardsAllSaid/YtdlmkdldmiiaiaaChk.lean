/- shards: list, Check. Conditions: those that each theorem names. -/
import Derived.Test.YtdlmkdldmiiaiaaRep
namespace Go.Proofs.Ytdlmkdldmiiaiaa.E
open Go.RowKit Go.Sort Go.Shelf
open Go.Proofs.Ytdlmkdldmiiaiaa.Ma Go.Proofs.Ytdlmkdldmiiaiaa.By Go.Proofs.Ytdlmkdldmiiaiaa.Enc
set_option linter.unusedVariables false
set_option linter.unusedSimpArgs false
theorem contains_at (A : Option Addr) (c : Nat) (L : List Int) (x : Int) (w : World) (hL : Lies encI 1 w A L) (hl : L.length ≤ 1000000) :
    Calls Try.prog 72 #[.slice A L.length c, .int .i64 x] w fun e w' => e = .returned (.bool (L.contains x)) ∧ w' = w := by
  cases L with
  | nil => exact Try.slices_Contains_int_empty A c x w
  | cons y r =>
    obtain ⟨b, o, rfl, hb, hc⟩ := lies1 hL (j := 0) rfl
    have h := Try.slices_Contains_int b o (y :: r).length c (y :: r) x w (Nat.le_refl _) (by omega) (fun j hj => by
      obtain ⟨b', o', e, _, hc'⟩ := lies1 hL (List.getElem?_eq_getElem hj)
      cases e
      rw [hc']
      congr 2
      simp [List.getD, List.getElem?_eq_getElem hj])
    rw [List.take_length] at h
    exact h
/-- The last number is less than 256. -/
def lastC (L : List Int) : Bool := L.isEmpty || decide (L.getLastD 0 < 256)
def listC (v : Int) (L : List Int) : Bool := rises (-1) L && (!(L.contains v) && lastC L)
theorem chkG_beq (L : List Int) : (chkG L == 0) = rises (-1) L := by
  unfold chkG
  cases rises (-1) L <;> rfl
set_option maxRecDepth 100000 in
set_option maxHeartbeats 1000000 in
theorem list_at (v : Int) (A : Option Addr) (c : Nat) (L : List Int) (w : World) (hL : Lies encI 1 w A L) (hl : L.length ≤ 1000000) :
    Calls Try.prog 43 #[.int .i64 v, .slice A L.length c] w fun e w' => e = .returned (.bool (listC v L)) ∧ w' = w := by
  have HC := Lib.hid (check_at A c L w hL hl)
  have HK := Lib.hid (contains_at A c L v w hL hl)
  have e0 := chkG_beq L
  obtain ⟨g, hg⟩ : ∃ g, chkG L = g := ⟨_, rfl⟩
  unfold listC
  rw [hg] at HC e0
  rw [← e0]
  obtain ⟨q, hq⟩ : ∃ q, (g == 0) = q := ⟨_, rfl⟩
  obtain ⟨p, hp⟩ : ∃ p, L.contains v = p := ⟨_, rfl⟩
  rw [hp] at HK ⊢
  cases q with
  | false =>
    rw [hq]
    clear hL hl e0 hg hp
    go_enter Try.func43, Try.ntmps43
    go_wp2_with (go_at_call 65; refine HC.out.mono ?_; rintro e w2 ⟨rfl, rfl⟩)
    go_ret
    exact ⟨rfl, rfl⟩
  | true =>
    rw [hq]
    cases p with
    | true =>
      clear hL hl e0 hg hp
      go_enter Try.func43, Try.ntmps43
      go_wp2_with (first | (go_at_call 65; refine HC.out.mono ?_; rintro e w2 ⟨rfl, rfl⟩) | (go_at_call 72; refine HK.out.mono ?_; rintro e w2 ⟨rfl, rfl⟩))
      go_ret
      exact ⟨rfl, rfl⟩
    | false =>
      rcases Nat.eq_zero_or_pos L.length with h0 | h0
      · have hn : L = [] := List.length_eq_zero_iff.1 h0
        subst hn
        clear hL hl e0 hg hp h0
        go_enter Try.func43, Try.ntmps43
        go_wp2_with (first | (go_at_call 65; refine HC.out.mono ?_; rintro e w2 ⟨rfl, rfl⟩) | (go_at_call 72; refine HK.out.mono ?_; rintro e w2 ⟨rfl, rfl⟩))
        go_ret
        exact ⟨rfl, rfl⟩
      · obtain ⟨n, hn⟩ : ∃ n, L.length = n + 1 := ⟨L.length - 1, by omega⟩
        obtain ⟨y, hy⟩ : ∃ p, L[n]? = some p := ⟨L[n], List.getElem?_eq_getElem _⟩
        obtain ⟨b, o, rfl, _, hc⟩ := lies1 hL hy
        have hlast : lastC L = decide (y < 256) := by
          unfold lastC
          have hne : L ≠ [] := fun e => by rw [e] at h0; simp at h0
          have e1 : L.isEmpty = false := by cases L <;> simp_all
          rw [e1, Bool.false_or, List.getLastD_eq_getLast?, List.getLast?_eq_getElem?, hn, Nat.add_sub_cancel, hy]
          rfl
        rw [hlast]
        obtain ⟨N, hN⟩ : ∃ N, L.length = N := ⟨_, rfl⟩
        rw [hN] at HC HK h0 hn hl ⊢
        have j0 : ((N : Int) == 0) = false := by simp; omega
        have j1 : (N : Int) - 1 = (n : Int) := by omega
        have j2 : (n : Int) < 1000000 := by omega
        have j3 : (n : Int) < (N : Int) := by omega
        have j4 : (N : Int) ≤ 1000000 := by omega
        clear hL hl e0 hg hp h0 hn hy hlast hN
        by_cases h6 : y < 256
        · rw [decide_eq_true h6]
          have b6 : decide (y < 256) = true := decide_eq_true h6
          go_enter Try.func43, Try.ntmps43
          go_wp2_with (first | (go_at_call 65; refine HC.out.mono ?_; rintro e w2 ⟨rfl, rfl⟩) | (go_at_call 72; refine HK.out.mono ?_; rintro e w2 ⟨rfl, rfl⟩))
          go_ret
          exact ⟨by simp, rfl⟩
        · rw [decide_eq_false h6]
          have b6 : decide (y < 256) = false := decide_eq_false h6
          go_enter Try.func43, Try.ntmps43
          go_wp2_with (first | (go_at_call 65; refine HC.out.mono ?_; rintro e w2 ⟨rfl, rfl⟩) | (go_at_call 72; refine HK.out.mono ?_; rintro e w2 ⟨rfl, rfl⟩))
          go_ret
          exact ⟨by simp, rfl⟩
/-- May each list be, from this vertex on? -/
def listsC : Int → List (List Int) → Bool
  | _, [] => true
  | v, L :: r => listC v L && listsC (v + 1) r
/-- Why a shard may not be: 0, if it may. -/
def checkC (lo hi : Int) (O : List (List Int)) : Int :=
  if mayC lo hi = false ∨ (O.length : Int) ≠ hi - lo ∨ 4096 < manyC O then 2 else if listsC lo O then 0 else 2
theorem mayC_in {lo hi : Int} (h : mayC lo hi = true) : 0 ≤ lo ∧ lo < hi ∧ hi ≤ 256 := by
  unfold mayC at h
  simp only [Bool.and_eq_true, decide_eq_true_eq] at h
  exact h
theorem listsC_drop {v : Int} {O : List (List Int)} {k : Nat} {L : List Int} (h : O[k]? = some L) : listsC (v + k) (O.drop k) = (listC (v + k) L && listsC (v + (k + 1 : Nat)) (O.drop (k + 1))) := by
  have hk := (List.getElem?_eq_some_iff.1 h).1
  rw [List.drop_eq_getElem_cons hk]
  have e : O[k] = L := (List.getElem?_eq_some_iff.1 h).2
  rw [e]
  show (listC (v + k) L && listsC (v + k + 1) (O.drop (k + 1))) = _
  congr 2
  omega
set_option maxRecDepth 100000 in
set_option maxHeartbeats 2000000 in
theorem checks_at (lo hi : Int) (A : Option Addr) (c : Nat) (O : List (List Int)) (w : World) (hL : LiesR w A O) (hl : O.length ≤ 1000000) (hm : manyC O ≤ 1000000) :
    Calls Try.prog 17 #[shV lo hi A O.length c] w fun e w' => e = .returned (.int .i64 (checkC lo hi O)) ∧ Below w.heap.size w w' := by
  obtain ⟨W, hW, g0, g1, g2, hbW, hsW⟩ := box28 w lo hi A O.length c
  have HM := Lib.hid (fun V => may_at lo hi V)
  have HN := Lib.hid (fun V (hb : Below w.heap.size w V) => many_at lo hi A c O V (hL.below hb (Nat.le_refl _)) hl hm)
  have HL := Lib.hid hL
  have HB := Lib.hid hbW
  have HLEN := Lib.hid hl
  have HMM := Lib.hid hm
  have HSW := Lib.hid hsW
  unfold checkC shV
  unfold shV at HN
  unfold partV at HM
  cases hmay : mayC lo hi with
  | false =>
    rw [if_pos (.inl rfl)]
    rw [hmay] at HM
    clear hL hl hm hsW hmay hbW
    go_enter Try.func17, Try.ntmps17
    go_wp2_with (go_at_call 29; refine (HM.out _).mono ?_; rintro e w2 ⟨rfl, hb2⟩; have HB2 := Lib.hid hb2; clear hb2)
    go_ret
    exact ⟨rfl, HB.out.trans (HB2.out.mono HB.out.size)⟩
  | true =>
    rw [hmay] at HM
    have hin := mayC_in hmay
    obtain ⟨d, hd⟩ : ∃ d : Nat, hi - lo = (d : Int) := ⟨(hi - lo).toNat, by omega⟩
    have l0 : 0 ≤ lo := hin.1
    have l1 : lo < hi := hin.2.1
    have l2 : hi ≤ 256 := hin.2.2
    by_cases hlen : O.length = d
    case neg =>
      rw [if_pos (.inr (.inl (by rw [hd]; omega)))]
      have j1 : ((O.length : Int) != (d : Int)) = true := by simp; omega
      clear hL hl hm hsW hmay hbW hin hlen
      go_enter Try.func17, Try.ntmps17
      go_wp2_with (go_at_call 29; refine (HM.out _).mono ?_; rintro e w2 ⟨rfl, hb2⟩; have HB2 := Lib.hid hb2; have g0' := (hb2.cell (p := ⟨w.heap.size, 0, none⟩) (by rw [HSW.out]; exact Nat.lt_succ_self _)).trans g0; have g1' := (hb2.cell (p := ⟨w.heap.size, 1, none⟩) (by rw [HSW.out]; exact Nat.lt_succ_self _)).trans g1; have g2' := (hb2.cell (p := ⟨w.heap.size, 2, none⟩) (by rw [HSW.out]; exact Nat.lt_succ_self _)).trans g2; clear hb2)
      go_ret
      exact ⟨rfl, HB.out.trans (HB2.out.mono HB.out.size)⟩
    subst hlen
    by_cases h4 : 4096 < manyC O
    · rw [if_pos (.inr (.inr h4))]
      obtain ⟨m, hmc⟩ : ∃ m, manyC O = m := ⟨_, rfl⟩
      rw [hmc] at h4 HN
      have j2 : decide (4096 < m) = true := decide_eq_true h4
      have j3 : decide ((m : Int) > 4096) = true := decide_eq_true (by omega)
      clear hL hl hm hsW hmay hbW hin hmc h4
      go_enter Try.func17, Try.ntmps17
      go_wp2_with (first | (go_at_call 29; refine (HM.out _).mono ?_; rintro e w2 ⟨rfl, hb2⟩; have HB2 := Lib.hid hb2; have g0' := (hb2.cell (p := ⟨w.heap.size, 0, none⟩) (by rw [HSW.out]; exact Nat.lt_succ_self _)).trans g0; have g1' := (hb2.cell (p := ⟨w.heap.size, 1, none⟩) (by rw [HSW.out]; exact Nat.lt_succ_self _)).trans g1; have g2' := (hb2.cell (p := ⟨w.heap.size, 2, none⟩) (by rw [HSW.out]; exact Nat.lt_succ_self _)).trans g2; clear hb2) | (go_at_call 42; refine (HN.out _ (HB.out.trans (HB2.out.mono HB.out.size))).mono ?_; rintro e w3 ⟨rfl, hb3⟩; have HB3 := Lib.hid hb3; clear hb3))
      go_ret
      exact ⟨rfl, (HB.out.trans (HB2.out.mono HB.out.size)).trans (HB3.out.mono (HB.out.trans (HB2.out.mono HB.out.size)).size)⟩
    · rw [if_neg (by rw [hd]; simp; omega)]
      obtain ⟨q, hq⟩ : ∃ q, listsC lo O = q := ⟨_, rfl⟩
      rw [hq]
      have HQ := Lib.hid (show listsC (lo + ((0 : Nat) : Int)) (O.drop 0) = q by rw [List.drop_zero, ← hq]; congr 1; omega)
      obtain ⟨v, hv⟩ : ∃ v : Int, (if q = true then 0 else 2) = v := ⟨_, rfl⟩
      rw [hv]
      have HV := Lib.hid (show (q = true → v = 0) ∧ (q = false → v = 2) by subst hv; exact ⟨fun h => by rw [h]; rfl, fun h => by rw [h]; rfl⟩)
      clear hv
      have HTOT := Lib.hid (fun k L (h : O[k]? = some L) => Nat.le_trans (many_len h) hm)
      obtain ⟨m, hmc⟩ : ∃ m, manyC O = m := ⟨_, rfl⟩
      rw [hmc] at h4 HN
      have j2 : decide (4096 < m) = false := decide_eq_false h4
      have j3 : decide ((m : Int) > 4096) = false := decide_eq_false (by omega)
      have HIN := Lib.hid (And.intro hin hd)
      clear hL hl hm hsW hmay hbW hmc h4 hq
      have HEQ := Lib.hid hd
      clear hin
      go_enter Try.func17, Try.ntmps17
      go_wp2_with (first | (go_at_call 29; refine (HM.out _).mono ?_; rintro e w2 ⟨rfl, hb2⟩; have HB2 := Lib.hid hb2; have g0' := (hb2.cell (p := ⟨w.heap.size, 0, none⟩) (by rw [HSW.out]; exact Nat.lt_succ_self _)).trans g0; have g1' := (hb2.cell (p := ⟨w.heap.size, 1, none⟩) (by rw [HSW.out]; exact Nat.lt_succ_self _)).trans g1; have g2' := (hb2.cell (p := ⟨w.heap.size, 2, none⟩) (by rw [HSW.out]; exact Nat.lt_succ_self _)).trans g2; clear hb2) | (go_at_call 42; refine (HN.out _ (HB.out.trans (HB2.out.mono HB.out.size))).mono ?_; rintro e w3 ⟨rfl, hb3⟩; have HB3 := Lib.hid hb3; have hsz := Nat.lt_of_lt_of_le (show w.heap.size < W.heap.size by rw [HSW.out]; exact Nat.lt_succ_self _) HB2.out.size; have G0 := (hb3.cell (p := ⟨w.heap.size, 0, none⟩) hsz).trans g0'; have G1 := (hb3.cell (p := ⟨w.heap.size, 1, none⟩) hsz).trans g1'; have G2 := (hb3.cell (p := ⟨w.heap.size, 2, none⟩) hsz).trans g2'; clear hb3 hsz))
      have HB4 := Lib.hid ((HB.out.trans (HB2.out.mono HB.out.size)).trans (HB3.out.mono (HB.out.trans (HB2.out.mono HB.out.size)).size))
      have HL4 := Lib.hid (HL.out.below HB4.out (Nat.le_refl _))
      have l3 : lo < 257 := by omega
      clear g0 g1 g2 g0' g1' g2' hd l1 l2 j2 j3
      go_loop [30] (fun i => ∃ k : Nat, i = .int .i64 (k : Int) ∧ k ≤ O.length ∧ listsC (lo + (k : Int)) (O.drop k) = q) (fun i => O.length - (intOf i).toNat)
      case atStart => exact ⟨0, rfl, by omega, HQ.out⟩
      case round =>
        obtain ⟨k, rfl, hk, hr⟩ := hrel
        by_cases hlt : k < O.length
        · obtain ⟨x, hx⟩ : ∃ p, O[k]? = some p := ⟨O[k], List.getElem?_eq_getElem _⟩
          obtain ⟨b, o, A', c', rfl, _, hc, _, _, hlx⟩ := liesR1 HL4.out hx
          have HC := Lib.hid (list_at (lo + (k : Int)) A' c' x w3 hlx (HTOT.out _ _ hx))
          rw [listsC_drop hx] at hr
          have i1 : (k : Int) < (O.length : Int) := by omega
          have i2 : (k : Int) < 1000000 := by have := HLEN.out; omega
          have HK := Lib.hid hlt
          cases hlc : listC (lo + (k : Int)) x with
          | false =>
            rw [hlc, Bool.false_and] at hr
            have hr : q = false := hr.symm
            subst hr
            have HV2 := Lib.hid (HV.out.2 rfl)
            clear HV
            rw [hlc] at HC
            clear hx hk hlt hlc hlx
            go_wp2_with (go_at_call 43; refine HC.out.mono ?_; rintro e w5 ⟨rfl, rfl⟩)
            go_ret
            exact ⟨by have := HV2.out; subst this; rfl, HB4.out⟩
          | true =>
            rw [hlc, Bool.true_and] at hr
            have HR := Lib.hid hr
            rw [hlc] at HC
            clear hx hk hlt hlc hlx hr
            go_wp2_with (go_at_call 43; refine HC.out.mono ?_; rintro e w5 ⟨rfl, rfl⟩)
            go_round
            case rel => exact ⟨k + 1, by go_num, HK.out, HR.out⟩
            case measure => have := HK.out; simp [intOf]; omega
        · obtain rfl : k = O.length := by omega
          rw [List.drop_length] at hr
          have hr : q = true := hr.symm
          subst hr
          have HV2 := Lib.hid (HV.out.1 rfl)
          clear hk hlt HV
          go_wp2
          go_ret
          exact ⟨by have := HV2.out; subst this; rfl, HB4.out⟩
end Go.Proofs.Ytdlmkdldmiiaiaa.E
