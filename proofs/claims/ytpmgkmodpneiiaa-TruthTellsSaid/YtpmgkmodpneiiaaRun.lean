/- run: what a job comes to. Conditions: those that each theorem names. -/
import Derived.Test.YtpmgkmodpneiiaaRwk
import Derived.Test.YtpmgkmodpneiiaaOf
namespace Go.Proofs.Ytpmgkmodpneiiaa.E
open Go.RowKit Go.Sort Go.Shelf
open Go.Proofs.Ytpmgkmodpneiiaa.Ma
set_option linter.unusedVariables false
set_option linter.unusedSimpArgs false
/-- Why edges, or a job, can't be asked of. -/
def refC (n : Int) (L : List Ed) (k a p : Int) : Int := if (normC n L).1 ≠ 0 then (normC n L).1 else if L ≠ (normC n L).2 then 2 else chk k a p n
/-- What a job comes to, and in how many rounds. -/
def job (n : Nat) (L : List Ed) (k a : Int) : List Nat × Nat :=
  if k = 1 then (bfs (ofOut n L) a.toNat, grt (bfs (ofOut n L) a.toNat) + 1)
  else if k = 2 then (ranks (ofOut n L) a.toNat, a.toNat)
  else if k = 3 then ((labs (ofAll n L)).1, (labs (ofAll n L)).2 + 1)
  else ((cores (ofAll n L) a.toNat).1, (cores (ofAll n L) a.toNat).2 + 1)
theorem refC_zero {n : Int} {L : List Ed} {k a p : Int} (h : refC n L k a p = 0) :
    ∃ N : Nat, n = (N : Int) ∧ 1 ≤ N ∧ N ≤ 256 ∧ Edges N L ∧ (normC n L).1 = 0 ∧ (normC n L).2 = L ∧ chk k a p n = 0 ∧ L.length ≤ 4096 := by
  unfold refC at h
  by_cases h1 : (normC n L).1 ≠ 0
  · rw [if_pos h1] at h; exact absurd h h1
  · rw [if_neg h1] at h
    by_cases h2 : L ≠ (normC n L).2
    · rw [if_pos h2] at h; exact absurd h (by decide)
    · rw [if_neg h2] at h
      have h1 : (normC n L).1 = 0 := Classical.byContradiction h1
      have h2 : L = (normC n L).2 := Classical.byContradiction h2
      obtain ⟨q1, q2, _, _⟩ := chk_zero h
      refine ⟨n.toNat, by omega, by omega, by omega, ?_, h1, h2.symm, h, ?_⟩
      · intro e he
        unfold normC at h1
        split at h1
        · cases h1
        · rename_i hb
          unfold badN at hb
          have hb2 : L.any (badE n) = false := by
            cases hq : L.any (badE n)
            · rfl
            · rw [hq] at hb; simp at hb
          have := List.any_eq_false.1 hb2 e he
          unfold badE inR at this
          simp at this
          omega
      · unfold normC at h1 h2
        split at h1
        · cases h1
        · split at h1
          · cases h1
          · rename_i hb hl
            rw [if_neg hb, if_neg hl] at h2
            dsimp only at h2
            rw [h2]
            omega
theorem arg_zero {n k a p : Int} (h : chk k a p n = 0) : (k = 1 ∧ 0 ≤ a ∧ a < n) ∨ (k = 2 ∧ 1 ≤ a ∧ a ≤ 64) ∨ (k = 3 ∧ a = 0) ∨ (k = 4 ∧ 0 ≤ a ∧ a ≤ 4096) := by
  unfold chk at h
  split at h
  · rename_i hc
    rw [Bool.and_eq_true] at hc
    have hc := hc.2
    unfold argOk at hc
    by_cases k1 : k = 1
    · rw [if_pos k1] at hc; have := of_decide_eq_true hc; exact .inl ⟨k1, this⟩
    · rw [if_neg k1] at hc
      by_cases k2 : k = 2
      · rw [if_pos k2] at hc; have := of_decide_eq_true hc; exact .inr (.inl ⟨k2, this⟩)
      · rw [if_neg k2] at hc
        by_cases k3 : k = 3
        · rw [if_pos k3] at hc; have := of_decide_eq_true hc; exact .inr (.inr (.inl ⟨k3, this⟩))
        · rw [if_neg k3] at hc
          by_cases k4 : k = 4
          · rw [if_pos k4] at hc; have := of_decide_eq_true hc; exact .inr (.inr (.inr ⟨k4, this⟩))
          · rw [if_neg k4] at hc; cases hc
  · cases h
set_option maxRecDepth 100000 in
set_option maxHeartbeats 4000000 in
theorem run_no (A : Option Addr) (c : Nat) (n : Int) (L : List Ed) (k a p d : Int) (w : World) (hL : Lies enc2 2 w A L) (hlen : L.length ≤ 100000) (h : refC n L k a p ≠ 0) :
    Calls Try.prog 23 #[.int .i64 n, .slice A L.length c, rq k a p d] w fun e w' => e = .returned (.tuple #[.slice none 0 0, .int .i64 0, .int .i64 (refC n L k a p)]) ∧ Below w.heap.size w w' := by
  obtain ⟨W, hW, hbl, c0, c1, c2, c3⟩ := box4 w k a p d
  have HB := Lib.hid hbl
  have HLW := Lib.hid (hL.below hbl (Nat.le_refl _))
  have HN := Lib.hid (normal_at A c n L W (hL.below hbl (Nat.le_refl _)) (by omega))
  obtain ⟨e1, he1⟩ : ∃ q, (normC n L).1 = q := ⟨_, rfl⟩
  obtain ⟨M, hM⟩ : ∃ q, (normC n L).2 = q := ⟨_, rfl⟩
  obtain ⟨v, hv⟩ : ∃ q, refC n L k a p = q := ⟨_, rfl⟩
  rw [he1, hM] at HN
  rw [hv] at h ⊢
  unfold refC at hv
  rw [he1, hM] at hv
  have hMl : M.length ≤ 100000 := by
    rw [← hM]
    unfold normC
    split
    · simp
    · split
      · simp
      · exact Nat.le_trans (nrm_len L) hlen
  have HML := Lib.hid hMl
  have HCK := Lib.hid (fun V => chk_at k a p d n V)
  have HKC := Lib.hid (fun (W2 : World) (hb : Below W.heap.size W W2) => And.intro (keep_cell c0 hb) (And.intro (keep_cell c1 hb) (And.intro (keep_cell c2 hb) (keep_cell c3 hb))))
  have i0 : (v != 0) = true := by simpa using h
  have i00 : (v == 0) = false := by simpa using h
  clear hL hM he1 hMl
  by_cases h1 : e1 ≠ 0
  · rw [if_pos h1] at hv
    subst hv
    have j0 : (e1 == 0) = false := by simpa using h1
    clear h1 h hbl
    go_enter Try.func23, Try.ntmps23
    go_wp2_with (go_at_call 28; refine HN.out.mono ?_; rintro e w2 ⟨v', rfl, hr, hb2⟩; have HR := Lib.hid hr; have HB2 := Lib.hid hb2; clear hr hb2)
    exact bodyPost_ret (v := .tuple #[.slice none 0 0, .int .i64 0, .int .i64 e1]) (by simp [results, Try.results23, go_sem]) rfl ⟨rfl, HB.out.trans (HB2.out.mono HB.out.size)⟩
  · rw [if_neg h1] at hv
    have h1 : e1 = 0 := Classical.byContradiction h1
    subst h1
    by_cases h2 : L ≠ M
    · rw [if_pos h2] at hv
      have hdec : decide (L = M) = false := decide_eq_false h2
      have HEQ := Lib.hid (fun (c' : Nat) (B : Option Addr) (V : World) (h1 : Lies enc2 2 V A L) (h2 : Lies enc2 2 V B M) => hdec ▸ equal_at A B c c' L M V h1 h2 (by omega) (by have := HML.out; omega))
      subst hv
      clear h2 h hbl hdec
      go_enter Try.func23, Try.ntmps23
      go_wp2_with (first | (have _ := HR; go_at_call 29; refine (HEQ.out c9 A9 _ HL9.out HM9.out).mono ?_; rintro e w3 ⟨rfl, hb3⟩; have HB3 := Lib.hid hb3; clear hb3) | (go_at_call 28; refine HN.out.mono ?_; rintro e w2 ⟨v', rfl, hr, hb2⟩; have HR := Lib.hid hr; have HB2 := Lib.hid hb2; obtain ⟨A9, c9, rfl, _, _⟩ := row_open enc2_len hr; have HL9 := Lib.hid (HLW.out.below hb2 (Nat.le_refl _)); have HM9 := Lib.hid (row_lies enc2_len hr); clear hr hb2))
      exact bodyPost_ret (v := .tuple #[.slice none 0 0, .int .i64 0, .int .i64 2]) (by simp [results, Try.results23, go_sem]) rfl ⟨rfl, HB.out.trans ((HB2.out.trans (HB3.out.mono HB2.out.size)).mono HB.out.size)⟩
    · rw [if_neg h2] at hv
      have h2 : L = M := Classical.byContradiction h2
      have hdec : decide (L = M) = true := decide_eq_true h2
      have HEQ := Lib.hid (fun (c' : Nat) (B : Option Addr) (V : World) (h1 : Lies enc2 2 V A L) (h2 : Lies enc2 2 V B M) => hdec ▸ equal_at A B c c' L M V h1 h2 (by omega) (by have := HML.out; omega))
      rw [hv] at HCK
      have HV := Lib.hid hv
      clear h2 h hbl hdec hv
      go_enter Try.func23, Try.ntmps23
      go_wp2_with (first | (have _ := HB3; go_at_call 19; refine (HCK.out _).mono ?_; rintro e w4 ⟨rfl, hb4⟩; have HB4 := Lib.hid hb4; clear hb4) | (have _ := HR; go_at_call 29; refine (HEQ.out c9 A9 _ HL9.out HM9.out).mono ?_; rintro e w3 ⟨rfl, hb3⟩; have HB3 := Lib.hid hb3; obtain ⟨z0, z1, z2, z3⟩ := HKC.out w3 (HB2.out.trans (hb3.mono HB2.out.size)); clear hb3) | (go_at_call 28; refine HN.out.mono ?_; rintro e w2 ⟨v', rfl, hr, hb2⟩; have HR := Lib.hid hr; have HB2 := Lib.hid hb2; obtain ⟨A9, c9, rfl, _, _⟩ := row_open enc2_len hr; have HL9 := Lib.hid (HLW.out.below hb2 (Nat.le_refl _)); have HM9 := Lib.hid (row_lies enc2_len hr); clear hr hb2))
      exact bodyPost_ret (v := .tuple #[.slice none 0 0, .int .i64 0, .int .i64 v]) (by simp [results, Try.results23, go_sem]) rfl ⟨rfl, HB.out.trans ((HB2.out.trans ((HB3.out.trans (HB4.out.mono HB3.out.size)).mono HB2.out.size)).mono HB.out.size)⟩
end Go.Proofs.Ytpmgkmodpneiiaa.E
