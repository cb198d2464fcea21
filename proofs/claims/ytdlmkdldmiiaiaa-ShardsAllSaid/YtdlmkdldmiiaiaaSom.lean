/- Edges by pairs of numbers, walked. Conditions: the pairs lie readable. -/
import Derived.Test.YtdlmkdldmiiaiaaApp
namespace Go.Proofs.Ytdlmkdldmiiaiaa.D
open Go.RowKit Go.Sort Go.Shelf
open Go.Proofs.Ytdlmkdldmiiaiaa.Ma
set_option linter.unusedVariables false
set_option linter.unusedSimpArgs false
abbrev enc8 (p : Ed) : List Value := [.int .u8 p.1, .int .u8 p.2]
theorem enc8_len (p : Ed) : (enc8 p).length = 2 := rfl
theorem lies8 {w : World} {A : Option Addr} {L : List Ed} (h : Lies enc8 2 w A L) {j : Nat} {x1 x2 : Int} (hx : L[j]? = some (x1, x2)) :
    ∃ b o, A = some ⟨b, o, none⟩ ∧ b < w.heap.size ∧ w.cell? ⟨b, o + j * 2, none⟩ = some (.int .u8 x1) ∧ w.cell? ⟨b, o + j * 2 + 1, none⟩ = some (.int .u8 x2) := by
  obtain ⟨b, o, e, hb, hc⟩ := h j _ hx
  exact ⟨b, o, e, hb, hc 0 _ rfl, hc 1 _ rfl⟩
theorem wrap8 {x : Int} (h : 0 ≤ x ∧ x ≤ 255) : IntKind.i64.wrap x = x := by
  simp only [IntKind.wrap, IntKind.bits, IntKind.signed]
  simp
  omega
def someE (n : Int) (p : Ed) : Ed := (p.1 % n, if p.1 % n ≤ p.2 % (n - 1) then p.2 % (n - 1) + 1 else p.2 % (n - 1))
theorem some_in {n : Int} (p : Ed) (hn : 2 ≤ n) : 0 ≤ (someE n p).1 ∧ (someE n p).1 < n ∧ 0 ≤ (someE n p).2 ∧ (someE n p).2 < n ∧ (someE n p).1 ≠ (someE n p).2 := by
  unfold someE
  have h1 := Int.emod_nonneg p.1 (show n ≠ 0 by omega)
  have h2 := Int.emod_lt_of_pos p.1 (show 0 < n by omega)
  have h3 := Int.emod_nonneg p.2 (show n - 1 ≠ 0 by omega)
  have h4 := Int.emod_lt_of_pos p.2 (show 0 < n - 1 by omega)
  dsimp only
  split <;> refine ⟨h1, h2, ?_, ?_, ?_⟩ <;> omega
theorem some_take {P : List Ed} {k : Nat} {p : Ed} {n : Int} (h : P[k]? = some p) : (P.take k).map (someE n) ++ [someE n p] = (P.take (k + 1)).map (someE n) := by
  rw [take_snoc h, List.map_append]
  rfl
set_option maxRecDepth 100000 in
set_option maxHeartbeats 4000000 in
theorem some_at (A : Option Addr) (c : Nat) (n : Int) (P : List Ed) (w : World) (hn : 2 ≤ n ∧ n ≤ 256) (hL : Lies enc8 2 w A P) (hb8 : ∀ p ∈ P, (0 ≤ p.1 ∧ p.1 ≤ 255) ∧ 0 ≤ p.2 ∧ p.2 ≤ 255) (hlen : P.length ≤ 400) :
    Calls Try.prog 26 #[.int .i64 n, .slice A P.length c] w fun e w' => ∃ A' c', e = .returned (.slice A' P.length c') ∧ w'.ownsRow w.heap.size 41 2 (.slice A' P.length c') P.length (cellsK enc2 (P.map (someE n))) ∧ Below w.heap.size w w' := by
  have HL := Lib.hid hL
  have HLen := Lib.hid hlen
  have HB8 := Lib.hid hb8
  have n1 : (1 : Int) < n := by omega
  have n2 : ¬ n = 0 := by omega
  have n3 : ¬ n - 1 = 0 := by omega
  have n4 : IntKind.i64.wrap (n - 1) = n - 1 := by
    simp only [IntKind.wrap, IntKind.bits, IntKind.signed]
    simp
    omega
  clear hL hb8
  go_enter Try.func26, Try.ntmps26
  go_wp2
  go_loopw [5, 6] (fun s i wr => ∃ (k : Nat) (A' : Option Addr) (c' : Nat) (K : List Ed), k ≤ P.length ∧ i = .int .i64 k ∧ s = .slice A' K.length c' ∧ K = (P.take k).map (someE n) ∧ wr.ownsRow w.heap.size 41 2 (.slice A' K.length c') K.length (cellsK enc2 K) ∧ Below w.heap.size w wr) (fun _ i _ => P.length - (intOf i).toNat)
  case atStart => exact ⟨0, none, 0, [], by omega, rfl, rfl, rfl, World.ownsRow_nil _ _ _ _, Below.refl _ _⟩
  case round =>
    obtain ⟨k, A', c', K, hk, rfl, rfl, hK, hr, hb⟩ := hrel
    have HK := Lib.hid hK
    have HR := Lib.hid hr
    have HB := Lib.hid hb
    clear hK hr hb
    by_cases hlt : k < P.length
    · obtain ⟨⟨p1, p2⟩, hx⟩ : ∃ p, P[k]? = some p := ⟨P[k], List.getElem?_eq_getElem _⟩
      obtain ⟨g, o, rfl, hg, q0, q1⟩ := lies8 (HL.out.below HB.out (Nat.le_refl _)) hx
      have hp8 := HB8.out _ (List.mem_of_getElem? hx)
      dsimp only at hp8
      have i1 : (k : Int) < (P.length : Int) := by omega
      have c1 : IntKind.i64.wrap p1 = p1 := wrap8 hp8.1
      have c2 : IntKind.i64.wrap p2 = p2 := wrap8 hp8.2
      have hst := some_take (n := n) hx
      obtain ⟨f, hf⟩ : ∃ f, p1 % n = f := ⟨_, rfl⟩
      obtain ⟨t, ht⟩ : ∃ t, p2 % (n - 1) = t := ⟨_, rfl⟩
      have f0 : 0 ≤ f ∧ f ≤ 255 := by have := Int.emod_nonneg p1 (show n ≠ 0 by omega); have := Int.emod_lt_of_pos p1 (show 0 < n by omega); omega
      have t0 : 0 ≤ t ∧ t ≤ 255 := by have := Int.emod_nonneg p2 (show n - 1 ≠ 0 by omega); have := Int.emod_lt_of_pos p2 (show 0 < n - 1 by omega); omega
      have e1 : p1.tmod n = f := by rw [← hf]; exact Int.tmod_eq_emod_of_nonneg hp8.1.1
      have e2 : p2.tmod (n - 1) = t := by rw [← ht]; exact Int.tmod_eq_emod_of_nonneg hp8.2.1
      have hE : someE n (p1, p2) = (f, if f ≤ t then t + 1 else t) := by unfold someE; dsimp only; rw [hf, ht]
      rw [hE] at hst
      have HRl : ∀ y, K ++ [y] = (P.take (k + 1)).map (someE n) → (K ++ [y]).length ≤ 2000000 := fun y e => by rw [e, List.length_map, List.length_take]; omega
      by_cases hft : f ≤ t
      · rw [if_pos hft] at hst
        obtain ⟨R, hR⟩ : ∃ R, K ++ [(f, t + 1)] = R := ⟨_, rfl⟩
        have H1 := Lib.hid hR
        have HRe := Lib.hid (show R = (P.take (k + 1)).map (someE n) by rw [← hR, HK.out, hst])
        have HRm := Lib.hid (show R.length ≤ 2000000 by rw [HRe.out, List.length_map, List.length_take]; omega)
        clear hx hg hp8 hst hf ht hE HRl hR
        go_wp2_with (at_builtin; refine wp_app rfl _ _ rfl w.heap.size K [(f, t + 1)] R H1.out (.slice A' K.length c') rfl (HR.out.alloc _) ⟨wr.heap.size, 0, none⟩ 1 1 rfl rfl (news_one (heap_alloc_new wr _)) HRm.out (Nat.le_trans HB.out.size (by simp)) ?_; intro A2 c2 w2 hr2 hf2; have HO2 := Lib.hid hr2; have HB2 := Lib.hid ((HB.out.alloc HB.out.size (.cells #[.int .i64 f, .int .i64 (t + 1)] 41)).trans (hf2.below (Nat.le_trans HB.out.size (by simp)) (fun i e => (HR.out.lt i e).1))); clear hr2 hf2)
        go_roundw
        case rel => exact ⟨k + 1, _, _, R, by omega, by go_num, rfl, HRe.out, HO2.out, HB2.out⟩
        case measure => simp [intOf]; omega
      · rw [if_neg hft] at hst
        obtain ⟨R, hR⟩ : ∃ R, K ++ [(f, t)] = R := ⟨_, rfl⟩
        have H1 := Lib.hid hR
        have HRe := Lib.hid (show R = (P.take (k + 1)).map (someE n) by rw [← hR, HK.out, hst])
        have HRm := Lib.hid (show R.length ≤ 2000000 by rw [HRe.out, List.length_map, List.length_take]; omega)
        clear hx hg hp8 hst hf ht hE HRl hR
        go_wp2_with (at_builtin; refine wp_app rfl _ _ rfl w.heap.size K [(f, t)] R H1.out (.slice A' K.length c') rfl (HR.out.alloc _) ⟨wr.heap.size, 0, none⟩ 1 1 rfl rfl (news_one (heap_alloc_new wr _)) HRm.out (Nat.le_trans HB.out.size (by simp)) ?_; intro A2 c2 w2 hr2 hf2; have HO2 := Lib.hid hr2; have HB2 := Lib.hid ((HB.out.alloc HB.out.size (.cells #[.int .i64 f, .int .i64 t] 41)).trans (hf2.below (Nat.le_trans HB.out.size (by simp)) (fun i e => (HR.out.lt i e).1))); clear hr2 hf2)
        go_roundw
        case rel => exact ⟨k + 1, _, _, R, by omega, by go_num, rfl, HRe.out, HO2.out, HB2.out⟩
        case measure => simp [intOf]; omega
    · obtain rfl : k = P.length := by omega
      rw [List.take_length] at HK
      have hKl := Lib.hid (show K.length = P.length by rw [HK.out, List.length_map])
      go_wp2
      go_ret
      rw [hKl.out]
      exact ⟨_, _, rfl, by have := HR.out; rw [hKl.out] at this; rw [← HK.out]; exact this, HB.out⟩
theorem c_some {A : Option Addr} {c : Nat} {n : Int} {P L : List Ed} {w : World} (hLL : P.map (someE n) = L) (hn : 2 ≤ n ∧ n ≤ 256) (hL : Lies enc8 2 w A P) (hb8 : ∀ p ∈ P, (0 ≤ p.1 ∧ p.1 ≤ 255) ∧ 0 ≤ p.2 ∧ p.2 ≤ 255) (hlen : P.length ≤ 400) :
    Calls Try.prog 26 #[.int .i64 n, .slice A P.length c] w fun e w' => ∃ A' c', e = .returned (.slice A' P.length c') ∧ Lies enc2 2 w' A' L ∧ Below w.heap.size w w' := by
  subst hLL
  refine (some_at A c n P w hn hL hb8 hlen).mono fun e w' ⟨A', c', he, hr, hb⟩ => ⟨A', c', he, ?_, hb⟩
  rw [show P.length = (P.map (someE n)).length by rw [List.length_map]] at hr
  exact row_lies enc2_len hr
end Go.Proofs.Ytdlmkdldmiiaiaa.D
