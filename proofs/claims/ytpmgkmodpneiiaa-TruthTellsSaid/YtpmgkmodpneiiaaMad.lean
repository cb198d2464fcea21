/- Graph.Made: the edges of a drawn graph. Conditions: the pairs lie readable. -/
import Derived.Test.YtpmgkmodpneiiaaOpn
namespace Go.Proofs.Ytpmgkmodpneiiaa.E
open Go.RowKit Go.Sort Go.Shelf
open Go.Proofs.Ytpmgkmodpneiiaa.Ma
set_option linter.unusedVariables false
set_option linter.unusedSimpArgs false
abbrev enc8 (p : Ed) : List Value := [.int .u8 p.1, .int .u8 p.2]
theorem enc8_len (p : Ed) : (enc8 p).length = 2 := rfl
theorem lies8 {w : World} {A : Option Addr} {L : List Ed} (h : Lies enc8 2 w A L) {j : Nat} {x1 x2 : Int} (hx : L[j]? = some (x1, x2)) :
    ∃ b o, A = some ⟨b, o, none⟩ ∧ b < w.heap.size ∧ w.cell? ⟨b, o + j * 2, none⟩ = some (.int .u8 x1) ∧ w.cell? ⟨b, o + j * 2 + 1, none⟩ = some (.int .u8 x2) := by
  obtain ⟨b, o, e, hb, hc⟩ := h j _ hx
  exact ⟨b, o, e, hb, hc 0 _ rfl, hc 1 _ rfl⟩
theorem wrap8 {x : Int} (h : 0 ≤ x ∧ x ≤ 255) : IntKind.i64.wrap x = x := by
  simp only [IntKind.wrap, IntKind.bits, IntKind.signed]
  simp
  omega
def pairE (n : Int) (p : Ed) : List Ed := if p.1 % n = p.2 % n then [] else [(p.1 % n, p.2 % n)]
/-- The edges of pairs of numbers. -/
def pairsE (n : Int) (P : List Ed) : List Ed := P.flatMap (pairE n)
theorem pairs_take {P : List Ed} {k : Nat} {p : Ed} {n : Int} (h : P[k]? = some p) : pairsE n (P.take (k + 1)) = pairsE n (P.take k) ++ pairE n p := by
  unfold pairsE
  rw [List.take_add_one, h, List.flatMap_append]
  simp
theorem pairs_len (n : Int) (P : List Ed) : (pairsE n P).length ≤ P.length := by
  unfold pairsE
  induction P with
  | nil => exact Nat.le_refl _
  | cons p P ih =>
    rw [List.flatMap_cons, List.length_append, List.length_cons]
    have : (pairE n p).length ≤ 1 := by unfold pairE; split <;> simp
    omega
theorem pairs_in {n : Int} {P : List Ed} (hn : 1 ≤ n) : ∀ e ∈ pairsE n P, 0 ≤ e.1 ∧ e.1 < n ∧ 0 ≤ e.2 ∧ e.2 < n ∧ e.1 ≠ e.2 := by
  intro e he
  unfold pairsE at he
  obtain ⟨p, _, h⟩ := List.mem_flatMap.1 he
  unfold pairE at h
  split at h
  · cases h
  · rename_i hne
    rw [List.mem_singleton.1 h]
    exact ⟨Int.emod_nonneg _ (by omega), Int.emod_lt_of_pos _ (by omega), Int.emod_nonneg _ (by omega), Int.emod_lt_of_pos _ (by omega), hne⟩
def madeN (N : Int) : Int := 1 + N % 60
/-- A drawn graph's edges. -/
def madeL (N : Int) (P : List Ed) : List Ed := nrm (pairsE (madeN N) P)
theorem madeN_in {N : Int} : 1 ≤ madeN N ∧ madeN N ≤ 60 := by unfold madeN; omega
theorem norm_ok {n : Int} {L : List Ed} (hn : 1 ≤ n ∧ n ≤ 256) (hl : L.length ≤ 4096) (h : ∀ e ∈ L, 0 ≤ e.1 ∧ e.1 < n ∧ 0 ≤ e.2 ∧ e.2 < n ∧ e.1 ≠ e.2) : normC n L = (0, nrm L) := by
  have := ok_norm hn (L := L) (fun x hx => by
    have := h x hx
    unfold badE inR
    simp
    omega)
  rw [this, if_neg (by have := nrm_len L; omega)]
theorem nrm_mem (L : List Ed) (x : Ed) : x ∈ nrm L ↔ x ∈ L := (nrm_norm L).2 x
theorem nrm_nrm (L : List Ed) : nrm (nrm L) = nrm L := by
  refine (nrm_eq ?_).symm
  exact ⟨(nrm_norm L).1, fun x => Iff.rfl⟩
structure Good (n : Nat) (L : List Ed) : Prop where
  n1 : 1 ≤ n
  n2 : n ≤ 60
  len : L.length ≤ 300
  inn : ∀ e ∈ L, 0 ≤ e.1 ∧ e.1 < n ∧ 0 ≤ e.2 ∧ e.2 < n ∧ e.1 ≠ e.2
  fix : nrm L = L
theorem made_good {N : Int} {P : List Ed} (hP : P.length ≤ 300) : Good (madeN N).toNat (madeL N P) := by
  have hm := madeN_in (N := N)
  have e : (((madeN N).toNat : Nat) : Int) = madeN N := Int.toNat_of_nonneg (by omega)
  refine ⟨by omega, by omega, ?_, fun x hx => ?_, nrm_nrm _⟩
  · exact Nat.le_trans (nrm_len _) (Nat.le_trans (pairs_len _ _) hP)
  · rw [e]
    exact pairs_in hm.1 x ((nrm_mem _ x).1 hx)
theorem Good.edges {n : Nat} {L : List Ed} (h : Good n L) : Edges n L := fun e he => ⟨(h.inn e he).1, (h.inn e he).2.1, (h.inn e he).2.2.1, (h.inn e he).2.2.2.1⟩
theorem Good.ref {n : Nat} {L : List Ed} (h : Good n L) {k a p : Int} : refC n L k a p = chk k a p n := by
  have hc : normC n L = (0, nrm L) := norm_ok ⟨by have := h.n1; omega, by have := h.n2; omega⟩ (by have := h.len; omega) h.inn
  unfold refC
  rw [hc, h.fix]
  simp
set_option maxRecDepth 100000 in
set_option maxHeartbeats 4000000 in
theorem made_at (A : Option Addr) (c : Nat) (N : Int) (P : List Ed) (w : World) (hN : 0 ≤ N ∧ N ≤ 255) (hL : Lies enc8 2 w A P) (hb8 : ∀ p ∈ P, (0 ≤ p.1 ∧ p.1 ≤ 255) ∧ 0 ≤ p.2 ∧ p.2 ≤ 255) (hlen : P.length ≤ 300) :
    Calls Try.prog 16 #[.agg #[.int .u8 N, .slice A P.length c]] w fun e w' => ∃ A' c', e = .returned (.tuple #[.int .i64 (madeN N), .slice A' (madeL N P).length c']) ∧ Lies enc2 2 w' A' (madeL N P) ∧ Below w.heap.size w w' := by
  obtain ⟨W, hW, gW, hbl, hsz⟩ := box_new w (.cells #[.int .u8 N, .slice A P.length c] 41 (0, 0))
  have b0 : W.cell? ⟨w.heap.size, 0, none⟩ = some (.int .u8 N) := cell_of_heap (i := 0) gW rfl
  have b1 : W.cell? ⟨w.heap.size, 1, none⟩ = some (.slice A P.length c) := cell_of_heap (i := 1) gW rfl
  have HB := Lib.hid hbl
  have HL := Lib.hid (hL.below hbl (Nat.le_refl _))
  have HLen := Lib.hid hlen
  have HB8 := Lib.hid hb8
  have hm := madeN_in (N := N)
  have e0 : N.tmod 60 = N % 60 := Int.tmod_eq_emod_of_nonneg hN.1
  obtain ⟨m, hmm⟩ : ∃ m, N % 60 = m := ⟨_, rfl⟩
  rw [hmm] at e0
  obtain ⟨n, hn⟩ : ∃ n, madeN N = n := ⟨_, rfl⟩
  have hnm : 1 + m = n := by rw [← hn, ← hmm]; rfl
  have HNN := Lib.hid hn
  rw [hn] at hm
  have e1 : IntKind.i64.wrap N = N := wrap8 hN
  have e2 : RowKit.wrap64 (1 + m) = n := by rw [IntWalk.wrap64_in _ ⟨by omega, by omega⟩]; exact hnm
  have e3 : IntKind.i64.wrap (1 + m) = n := by rw [IntWalk.i64_in _ ⟨by omega, by omega⟩]; exact hnm
  have HM := Lib.hid hm
  have n0 : ¬ n = 0 := by omega
  have hml : madeL N P = nrm (pairsE n P) := by unfold madeL; rw [hn]
  rw [hml]
  have HC := Lib.hid (norm_ok (L := pairsE n P) (n := n) ⟨by omega, by omega⟩ (Nat.le_trans (pairs_len n P) (by omega)) (pairs_in hm.1))
  clear hL hb8 hbl hsz gW hn hnm hmm hm hN hml
  go_enter Try.func16, Try.ntmps16
  go_wp2
  go_loopw [5, 6] (fun s i wr => ∃ (k : Nat) (A' : Option Addr) (c' : Nat) (K : List Ed), k ≤ P.length ∧ i = .int .i64 k ∧ s = .slice A' K.length c' ∧ K = pairsE n (P.take k) ∧ wr.ownsRow W.heap.size 27 2 (.slice A' K.length c') K.length (cellsK enc2 K) ∧ Below W.heap.size W wr) (fun _ i _ => P.length - (intOf i).toNat)
  case atStart => exact ⟨0, none, 0, [], by omega, rfl, rfl, rfl, World.ownsRow_nil _ _ _ _, Below.refl _ _⟩
  case round =>
    obtain ⟨k, A', c', K, hk, rfl, rfl, hK, hr, hb⟩ := hrel
    have HK := Lib.hid hK
    have HR := Lib.hid hr
    have HBk := Lib.hid hb
    have b1c := keep_cell b1 hb
    by_cases hlt : k < P.length
    · obtain ⟨⟨p1, p2⟩, hx⟩ : ∃ p, P[k]? = some p := ⟨P[k], List.getElem?_eq_getElem _⟩
      obtain ⟨g, o, rfl, hg, q0, q1⟩ := lies8 (HL.out.below hb (Nat.le_refl _)) hx
      have hp8 := HB8.out _ (List.mem_of_getElem? hx)
      dsimp only at hp8
      have i1 : (k : Int) < (P.length : Int) := by omega
      have c1 : IntKind.i64.wrap p1 = p1 := wrap8 hp8.1
      have c2 : IntKind.i64.wrap p2 = p2 := wrap8 hp8.2
      have hst := pairs_take (n := n) hx
      obtain ⟨f, hf⟩ : ∃ f, p1 % n = f := ⟨_, rfl⟩
      obtain ⟨t, ht⟩ : ∃ t, p2 % n = t := ⟨_, rfl⟩
      have d1 : p1.tmod n = f := by rw [← hf]; exact Int.tmod_eq_emod_of_nonneg hp8.1.1
      have d2 : p2.tmod n = t := by rw [← ht]; exact Int.tmod_eq_emod_of_nonneg hp8.2.1
      have hE : pairE n (p1, p2) = if f = t then [] else [(f, t)] := by unfold pairE; dsimp only; rw [hf, ht]
      rw [hE] at hst
      by_cases hft : f = t
      · rw [if_pos hft, List.append_nil] at hst
        have HST := Lib.hid hst
        subst hft
        have x0 : (f != f) = false := by simp
        clear hx hg hp8 hst hf ht hE hK hr hb
        go_wp2
        go_quiet (fail)
        go_wp2
        go_roundw
        case rel => exact ⟨k + 1, _, _, K, by omega, by go_num, rfl, by rw [HST.out]; exact HK.out, HR.out, HBk.out.trans ((below_drewNg wr _).mono HBk.out.size)⟩
        case measure => simp [intOf]; omega
      · rw [if_neg hft] at hst
        obtain ⟨R, hR⟩ : ∃ R, K ++ [(f, t)] = R := ⟨_, rfl⟩
        have H1 := Lib.hid hR
        have HRe := Lib.hid (show R = pairsE n (P.take (k + 1)) by rw [← hR, HK.out, hst])
        have HRm := Lib.hid (show R.length ≤ 2000000 by rw [HRe.out]; exact Nat.le_trans (pairs_len _ _) (by rw [List.length_take]; omega))
        have x0 : (f != t) = true := by simpa using hft
        clear hx hg hp8 hst hf ht hE hR hK hr hb hft
        go_wp2
        go_quiet (fail)
        obtain ⟨wd, hwd⟩ : ∃ V, wr.drewN nq = V := ⟨_, rfl⟩
        have HRd := Lib.hid (show wd.ownsRow W.heap.size 27 2 (.slice A' K.length c') K.length (cellsK enc2 K) by rw [← hwd]; exact HR.out)
        have HBd := Lib.hid (show Below W.heap.size W wd by rw [← hwd]; exact HBk.out.trans ((below_drewNg wr _).mono HBk.out.size))
        rw [hwd]
        clear hwd q0 q1 b1c
        go_wp2_with (at_builtin; refine wp_app rfl _ _ rfl W.heap.size K [(f, t)] R H1.out (.slice A' K.length c') rfl (HRd.out.alloc _) ⟨wd.heap.size, 0, none⟩ 1 1 rfl rfl (news_one (heap_alloc_new wd _)) HRm.out (Nat.le_trans HBd.out.size (by simp)) ?_; intro A2 c2 w2 hr2 hf2; have HO2 := Lib.hid hr2; have HB2 := Lib.hid ((HBd.out.alloc HBd.out.size (.cells #[.int .i64 f, .int .i64 t] 27)).trans (hf2.below (Nat.le_trans HBd.out.size (by simp)) (fun i e => (HRd.out.lt i e).1))); clear hr2 hf2)
        go_roundw
        case rel => exact ⟨k + 1, _, _, R, by omega, by go_num, rfl, HRe.out, HO2.out, HB2.out⟩
        case measure => simp [intOf]; omega
    · obtain rfl : k = P.length := by omega
      rw [List.take_length] at HK
      have HRN := Lib.hid (refnorm_at A' c' n K wr (row_lies enc2_len hr) (by rw [HK.out]; exact Nat.le_trans (pairs_len _ _) (by omega)))
      have HCC := HC.out
      rw [← HK.out] at HCC
      rw [HCC] at HRN
      clear hK hr hb hk hlt HCC
      go_wp2_with (go_at_call 18; refine HRN.out.mono ?_; rintro e w2 ⟨v', rfl, hr2, hb2⟩; have HR2 := Lib.hid hr2; have HB2 := Lib.hid hb2; obtain ⟨A9, c9, rfl, _, _⟩ := row_open enc2_len hr2; clear hr2 hb2)
      rw [HNN.out]
      exact bodyPost_ret (v := .tuple #[.int .i64 n, .slice A9 (nrm K).length c9]) (by simp [results, Try.results16, go_sem]) rfl ⟨A9, c9, by rw [HK.out], by have := row_lies enc2_len HR2.out; rw [HK.out] at this; exact this, HB.out.trans ((HBk.out.trans (HB2.out.mono HBk.out.size)).mono HB.out.size)⟩
end Go.Proofs.Ytpmgkmodpneiiaa.E
