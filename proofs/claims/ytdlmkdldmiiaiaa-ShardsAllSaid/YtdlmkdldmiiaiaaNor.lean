/- edges.Normal, walked. Conditions: the list lies readable. -/
import Derived.Test.YtdlmkdldmiiaiaaCom
namespace Go.Proofs.Ytdlmkdldmiiaiaa.D
open Go.RowKit Go.Sort Go.Shelf
open Go.Proofs.Ytdlmkdldmiiaiaa.Ma
set_option linter.unusedVariables false
set_option linter.unusedSimpArgs false
theorem nrm_sorted {L M : List Ed} (hp : M.Perm L) (ho : Order M) : cpt M = nrm L := nrm_eq ((cpt_norm ho).congr fun x => hp.mem_iff)
theorem con_v {A : Option Addr} {c b : Nat} {n : Int} {L : List Ed} {w : World} {bb : Bool} (hv : L.any (badE n) = bb) (hL : Lies enc2 2 w A L) (hlen : L.length ≤ 1000000) (hc : w.cell? ⟨b, 0, none⟩ = some (.int .i64 n)) (hb : b < w.heap.size) :
    Calls Try.prog 55 #[.slice A L.length c, .func (.func 52) #[] #[.pointer (some ⟨b, 0, none⟩)]] w fun e w' => e = .returned (.bool bb) ∧ Below w.heap.size w w' := by
  subst hv
  exact con_at A c b n L w hL hlen hc hb
theorem values_v (A : Option Addr) (c : Nat) (L : List Ed) (w : World) (hL : Lies enc2 2 w A L) :
    Calls Try.prog 58 #[.slice A L.length c] w fun e w' => ∃ Bs, e = .returned (.func (.func 80) #[] #[.pointer (some ⟨Bs, 0, none⟩)]) ∧ Bs < w'.heap.size ∧ w'.cell? ⟨Bs, 0, none⟩ = some (.slice A L.length c) ∧ Lies enc2 2 w' A L ∧ Below w.heap.size w w' :=
  (values_at A L.length c w).mono fun e w' ⟨he, hw⟩ => by
    have hb : Below w.heap.size w w' := by rw [hw]; exact (Below.refl _ _).alloc (Nat.le_refl _) _
    exact ⟨_, he, by rw [hw]; simp, by rw [hw]; exact cell_of_heap (i := 0) (heap_alloc_new w _) rfl, hL.below hb (Nat.le_refl _), hb⟩
theorem comp_v (B : Nat) (v : Value) (L M : List Ed) (w : World) (hp : M.Perm L) (ho : Order M) (h : w.ownsRow B 41 2 v M.length (cellsK enc2 M)) (hlen : L.length ≤ 1000000) (B0 : Nat) (hB0 : B0 ≤ B) (hw : B0 ≤ w.heap.size) :
    Calls Try.prog 56 #[v] w fun e w' => ∃ A' c', e = .returned (.slice A' (nrm L).length c') ∧ w'.ownsRow B0 41 2 (.slice A' (nrm L).length c') (nrm L).length (cellsK enc2 (nrm L)) ∧ Below B0 w w' :=
  (compact_row B v M w h (by rw [hp.length_eq]; exact hlen)).mono fun e w' ⟨v', he, hr, hf⟩ => by
    rw [nrm_sorted hp ho] at hr
    obtain ⟨A', c', rfl, _, _⟩ := row_open enc2_len hr
    exact ⟨A', c', he, row_base hr hB0, hf.below hw (fun k hk => Nat.le_trans hB0 (h.lt k hk).1)⟩
set_option maxRecDepth 100000 in
set_option maxHeartbeats 2000000 in
theorem normal_at (A : Option Addr) (c : Nat) (n : Int) (L : List Ed) (w : World) (hL : Lies enc2 2 w A L) (hlen : L.length ≤ 1000000) :
    Calls Try.prog 25 #[.int .i64 n, .slice A L.length c] w fun e w' => ∃ v', e = .returned (.tuple #[v', .int .i64 (normC n L).1]) ∧ w'.ownsRow w.heap.size 41 2 v' (normC n L).2.length (cellsK enc2 (normC n L).2) ∧ Below w.heap.size w w' := by
  obtain ⟨W, hW, gW, hbl, hsz⟩ := box_new w (.cells #[.int .i64 n] 3 (0, 0))
  have cW := cell_of_heap (i := 0) gW rfl
  have lW : w.heap.size < W.heap.size := by omega
  have HLW := Lib.hid (hL.below hbl (Nat.le_refl _))
  have HBL := Lib.hid hbl
  have HLen := Lib.hid hlen
  clear hL hbl hlen gW hsz
  unfold normC badN
  cases hm : mayR n
  · rw [if_pos (by rfl)]
    go_enter Try.func25, Try.ntmps25
    go_wp2_with (go_at_call 54; refine (may_at _ _).mono ?_; rintro e w1 ⟨rfl, rfl⟩)
    exact bodyPost_ret (v := .tuple #[.slice none 0 0, .int .i64 2]) (by simp [results, Try.results25, go_sem]) rfl ⟨_, rfl, World.ownsRow_nil _ _ _ _, HBL.out⟩
  cases hb : L.any (badE n)
  · rw [if_neg (by simp)]
    have HB := Lib.hid hb
    clear hb
    by_cases hl : 4096 < (nrm L).length
    · rw [if_pos hl]
      have h2 : (4096 : Int) < ((nrm L).length : Int) := by omega
      clear hl
      go_enter Try.func25, Try.ntmps25
      go_wp2_with (first
        | (go_at_call 56; refine (comp_v _ _ L _ _ HP.out HO.out HR4.out HLen.out w.heap.size (Nat.le_trans HBL.out.size (Nat.le_trans HB2.out.size HB3.out.size)) (Nat.le_trans HBL.out.size (Nat.le_trans HB2.out.size (Nat.le_trans HB3.out.size HB4.out.size)))).mono ?_; rintro e w5 ⟨A5, c5, rfl, hr5, hb5⟩; have HR5 := Lib.hid hr5; have HB5 := Lib.hid hb5; clear hr5 hb5)
        | (go_at_call 57; refine (sorted_at _ _ _ L _ HL3.out HLen.out hBs.out hcs.out).mono ?_; rintro e w4 ⟨v4, M, rfl, hp, ho, hr4, hb4⟩; have HP := Lib.hid hp; have HO := Lib.hid ho; have HR4 := Lib.hid hr4; have HB4 := Lib.hid hb4; clear hp ho hr4 hb4)
        | (go_at_call 58; refine (values_v _ _ L _ (HLW.out.below HB2.out (Nat.le_refl _))).mono ?_; rintro e w3 ⟨Bs, rfl, k1, k2, k3, k4⟩; have hBs := Lib.hid k1; have hcs := Lib.hid k2; have HL3 := Lib.hid k3; have HB3 := Lib.hid k4; clear k1 k2 k3 k4)
        | (go_at_call 55; refine (con_v HB.out HLW.out HLen.out cW lW).mono ?_; rintro e w2 ⟨rfl, hb2⟩; have HB2 := Lib.hid hb2; clear hb2)
        | (go_at_call 54; refine (may_at _ _).mono ?_; rintro e w1 ⟨rfl, rfl⟩))
      exact bodyPost_ret (v := .tuple #[.slice none 0 0, .int .i64 3]) (by simp [results, Try.results25, go_sem]) rfl ⟨_, rfl, World.ownsRow_nil _ _ _ _, HBL.out.trans ((HB2.out.mono HBL.out.size).trans ((HB3.out.mono (Nat.le_trans HBL.out.size HB2.out.size)).trans ((HB4.out.mono (Nat.le_trans HBL.out.size (Nat.le_trans HB2.out.size HB3.out.size))).trans HB5.out)))⟩
    · rw [if_neg hl]
      have h2 : ¬ (4096 : Int) < ((nrm L).length : Int) := by omega
      clear hl
      go_enter Try.func25, Try.ntmps25
      go_wp2_with (first
        | (go_at_call 56; refine (comp_v _ _ L _ _ HP.out HO.out HR4.out HLen.out w.heap.size (Nat.le_trans HBL.out.size (Nat.le_trans HB2.out.size HB3.out.size)) (Nat.le_trans HBL.out.size (Nat.le_trans HB2.out.size (Nat.le_trans HB3.out.size HB4.out.size)))).mono ?_; rintro e w5 ⟨A5, c5, rfl, hr5, hb5⟩; have HR5 := Lib.hid hr5; have HB5 := Lib.hid hb5; clear hr5 hb5)
        | (go_at_call 57; refine (sorted_at _ _ _ L _ HL3.out HLen.out hBs.out hcs.out).mono ?_; rintro e w4 ⟨v4, M, rfl, hp, ho, hr4, hb4⟩; have HP := Lib.hid hp; have HO := Lib.hid ho; have HR4 := Lib.hid hr4; have HB4 := Lib.hid hb4; clear hp ho hr4 hb4)
        | (go_at_call 58; refine (values_v _ _ L _ (HLW.out.below HB2.out (Nat.le_refl _))).mono ?_; rintro e w3 ⟨Bs, rfl, k1, k2, k3, k4⟩; have hBs := Lib.hid k1; have hcs := Lib.hid k2; have HL3 := Lib.hid k3; have HB3 := Lib.hid k4; clear k1 k2 k3 k4)
        | (go_at_call 55; refine (con_v HB.out HLW.out HLen.out cW lW).mono ?_; rintro e w2 ⟨rfl, hb2⟩; have HB2 := Lib.hid hb2; clear hb2)
        | (go_at_call 54; refine (may_at _ _).mono ?_; rintro e w1 ⟨rfl, rfl⟩))
      exact bodyPost_ret (v := .tuple #[.slice A5 (nrm L).length c5, .int .i64 0]) (by simp [results, Try.results25, go_sem]) rfl ⟨_, rfl, HR5.out, HBL.out.trans ((HB2.out.mono HBL.out.size).trans ((HB3.out.mono (Nat.le_trans HBL.out.size HB2.out.size)).trans ((HB4.out.mono (Nat.le_trans HBL.out.size (Nat.le_trans HB2.out.size HB3.out.size))).trans HB5.out)))⟩
  · rw [if_pos (by simp)]
    have HB := Lib.hid hb
    clear hb
    go_enter Try.func25, Try.ntmps25
    go_wp2_with (first
      | (go_at_call 55; refine (con_v HB.out HLW.out HLen.out cW lW).mono ?_; rintro e w2 ⟨rfl, hb2⟩; have HB2 := Lib.hid hb2; clear hb2)
      | (go_at_call 54; refine (may_at _ _).mono ?_; rintro e w1 ⟨rfl, rfl⟩))
    exact bodyPost_ret (v := .tuple #[.slice none 0 0, .int .i64 2]) (by simp [results, Try.results25, go_sem]) rfl ⟨_, rfl, World.ownsRow_nil _ _ _ _, HBL.out.trans (HB2.out.mono HBL.out.size)⟩
end Go.Proofs.Ytdlmkdldmiiaiaa.D
