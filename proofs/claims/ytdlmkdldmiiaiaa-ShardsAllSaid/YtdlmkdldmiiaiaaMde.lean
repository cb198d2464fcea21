/- made walked: the law's own shard. Conditions: those that the theorem names. -/
import Derived.Test.YtdlmkdldmiiaiaaCut
import Derived.Test.YtdlmkdldmiiaiaaSom
namespace Go.Proofs.Ytdlmkdldmiiaiaa.E
open Go.RowKit Go.Sort Go.Shelf
open Go.Proofs.Ytdlmkdldmiiaiaa.Ma Go.Proofs.Ytdlmkdldmiiaiaa.By Go.Proofs.Ytdlmkdldmiiaiaa.Enc
set_option linter.unusedVariables false
set_option linter.unusedSimpArgs false
def madeN (x : Int) : Int := 2 + x.tmod 255
def madeL (x : Int) (P : List Ed) : List Ed := D.nrm (P.map (D.someE (madeN x)))
theorem madeN_in {x : Int} (h : 0 ≤ x ∧ x ≤ 255) : 2 ≤ madeN x ∧ madeN x ≤ 256 := by
  unfold madeN
  rw [Int.tmod_eq_emod_of_nonneg h.1]
  omega
theorem made_len (x : Int) (P : List Ed) : (madeL x P).length ≤ P.length := by
  unfold madeL
  have := D.nrm_len (P.map (D.someE (madeN x)))
  rwa [List.length_map] at this
theorem made_mem {x : Int} (hx : 0 ≤ x ∧ x ≤ 255) (P : List Ed) : ∀ y ∈ madeL x P, 0 ≤ y.1 ∧ y.1 < madeN x ∧ 0 ≤ y.2 ∧ y.2 < madeN x ∧ y.1 ≠ y.2 := fun y hy => by
  have := (D.nrm_norm (P.map (D.someE (madeN x)))).mem y
  obtain ⟨p, _, rfl⟩ := List.mem_map.1 (this.1 hy)
  exact D.some_in p (madeN_in hx).1
theorem made_norm {x : Int} (hx : 0 ≤ x ∧ x ≤ 255) {P : List Ed} (hl : P.length ≤ 400) : D.normC (madeN x) (P.map (D.someE (madeN x))) = (0, madeL x P) := by
  have hn := madeN_in hx
  unfold D.normC D.badN
  have h1 : D.mayR (madeN x) = true := by unfold D.mayR; simp; omega
  have h2 : (P.map (D.someE (madeN x))).any (D.badE (madeN x)) = false := by
    rw [List.any_eq_false]
    intro y hy
    obtain ⟨p, _, rfl⟩ := List.mem_map.1 hy
    have := D.some_in p hn.1
    unfold D.badE D.inR
    simp
    omega
  rw [h1, h2, if_neg (by simp), if_neg (by have := made_len x P; unfold madeL at this; omega)]
  rfl
theorem row_least {w : World} {B n k g : Nat} {e : TypeId} {v : Value} {xs : List Value} (h : w.ownsRow B e k v n xs) (hg : v.ownBlock = some g) : B ≤ g := (h.lt g hg).1
theorem c_norm {n : Int} {A : Option Addr} {c m : Nat} {L : List Ed} {w : World} {R : Int × List Ed} (hm : L.length = m) (hR : D.normC n L = R) (hL : Lies enc2 2 w A L) (hlen : L.length ≤ 500000) : Calls Try.prog 25 #[.int .i64 n, .slice A m c] w fun e w' => ∃ A' c', e = .returned (.tuple #[.slice A' R.2.length c', .int .i64 R.1]) ∧ (∀ (S : Nat → Prop) (W' : World), Fr S w' W' → (∀ k, S k → k < w.heap.size) → Lies enc2 2 W' A' R.2) ∧ Below w.heap.size w w' := by
  subst hm
  exact (D.normal_at A c n L w hL (by omega)).mono fun e w' ⟨v', he, hr, hb⟩ => by
    rw [hR] at he hr
    obtain ⟨A', c', rfl, _, _⟩ := row_open enc2_len hr
    exact ⟨A', c', he, fun S W' hf hS => row_lies enc2_len (hf.row hr (fun g hg hs => by have h1 := row_least hr hg; have h2 := hS g hs; omega)), hb⟩
/-- How many parts. -/
def madeS (x y : Int) : Int := 1 + y.tmod (min (madeN x) 16)
theorem cut_in {n s k : Nat} (hs : 1 ≤ s ∧ s ≤ n) (hk : k < s) : k * n / s < (k + 1) * n / s ∧ (k + 1) * n / s ≤ n := by
  have h1 : k * n / s + 1 ≤ (k + 1) * n / s := by
    rw [← Nat.add_div_right _ (by omega), Nat.add_mul, Nat.one_mul]
    exact Nat.div_le_div_right (by omega)
  have h2 : (k + 1) * n / s ≤ n := by
    have := Nat.div_le_div_right (c := s) (Nat.mul_le_mul_right n (show k + 1 ≤ s by omega))
    rwa [Nat.mul_div_cancel_left _ (by omega)] at this
  exact ⟨by omega, h2⟩
theorem lies2at {w : World} {g j : Nat} {L : List Ed} {x y : Int} (h : Lies enc2 2 w (some ⟨g, 0, none⟩) L) (hx : L[j]? = some (x, y)) : w.cell? ⟨g, j * 2, none⟩ = some (.int .i64 x) ∧ w.cell? ⟨g, j * 2 + 1, none⟩ = some (.int .i64 y) := by
  obtain ⟨b, o, e, _, k0, k1⟩ := lies2 h hx
  have e1 : (⟨g, 0, none⟩ : Addr) = ⟨b, o, none⟩ := Option.some.inj e
  injection e1 with e2 e3 _
  subst e2 e3
  rw [Nat.zero_add] at k0 k1
  exact ⟨k0, k1⟩
set_option maxRecDepth 100000 in
set_option maxHeartbeats 8000000 in
theorem made_at (A : Option Addr) (cap : Nat) (x y : Int) (P : List Ed) (w : World) (hx8 : 0 ≤ x ∧ x ≤ 255) (hy8 : 0 ≤ y ∧ y ≤ 255) (hl : P.length ≤ 400) (hL : Lies D.enc8 2 w A P) (hb8 : ∀ p ∈ P, (0 ≤ p.1 ∧ p.1 ≤ 255) ∧ 0 ≤ p.2 ∧ p.2 ≤ 255) :
    Calls Try.prog 24 #[.int .u8 x, .int .u8 y, .slice A P.length cap] w fun e w' => ∃ A1 c1 A2 c2 lo hi, e = .returned (.tuple #[.slice A1 (madeL x P).length c1, shV (mkS lo hi (madeL x P)).1 (mkS lo hi (madeL x P)).2.1 A2 (mkS lo hi (madeL x P)).2.2.length c2, .bool true]) ∧ Lies enc2 2 w' A1 (madeL x P) ∧ LiesR w' A2 (mkS lo hi (madeL x P)).2.2 ∧ ((mkS lo hi (madeL x P)).2.2.length ≤ c2 ∧ c2 ≤ 9223372036854775807) ∧ (0 ≤ lo ∧ lo < hi ∧ hi ≤ madeN x) ∧ Below w.heap.size w w' := by
  have hcx : IntKind.i64.wrap x = x := D.wrap8 hx8
  have hcy : IntKind.i64.wrap y = y := D.wrap8 hy8
  have hNi := madeN_in hx8
  have hSi : 1 ≤ madeS x y ∧ madeS x y ≤ madeN x ∧ madeS x y ≤ 16 := by
    unfold madeS
    have h1 := Int.emod_nonneg y (show min (madeN x) 16 ≠ 0 by omega)
    have h2 := Int.emod_lt_of_pos y (show 0 < min (madeN x) 16 by omega)
    rw [Int.tmod_eq_emod_of_nonneg hy8.1]
    omega
  obtain ⟨r, hr⟩ : ∃ r, x.tmod 255 = r := ⟨_, rfl⟩
  obtain ⟨N, hN⟩ : ∃ N : Nat, madeN x = (N : Int) := ⟨(madeN x).toNat, by omega⟩
  have hN1 : 2 + r = (N : Int) := by rw [← hN, ← hr]; rfl
  obtain ⟨m, hm⟩ : ∃ m, min (N : Int) 16 = m := ⟨_, rfl⟩
  obtain ⟨q, hq⟩ : ∃ q, y.tmod m = q := ⟨_, rfl⟩
  obtain ⟨S, hS⟩ : ∃ S : Nat, madeS x y = (S : Int) := ⟨(madeS x y).toNat, by omega⟩
  have hS1 : 1 + q = (S : Int) := by rw [← hS, ← hq, ← hm, ← hN]; rfl
  rw [hN] at hNi hSi
  rw [hS] at hSi
  obtain ⟨K, hK⟩ : ∃ K : Nat, y.tmod (S : Int) = (K : Int) := ⟨(y.tmod (S : Int)).toNat, by have := Int.emod_nonneg y (show (S : Int) ≠ 0 by omega); rw [Int.tmod_eq_emod_of_nonneg hy8.1]; omega⟩
  have hKS : K < S := by
    have := Int.emod_lt_of_pos y (show 0 < (S : Int) by omega)
    rw [Int.tmod_eq_emod_of_nonneg hy8.1] at hK
    omega
  have m0 : ¬ m = 0 := by omega
  have S0 : ¬ S = 0 := by omega
  have S0' : ¬ (S : Int) = 0 := by omega
  have r0 : 0 ≤ r ∧ r ≤ 254 := by omega
  have q0 : 0 ≤ q ∧ q ≤ 15 := by omega
  have kk : (K : Int) < (S : Int) := by omega
  have wr : IntKind.i64.wrap r = r := IntWalk.i64_in _ ⟨by omega, by omega⟩
  have wq : IntKind.i64.wrap q = q := IntWalk.i64_in _ ⟨by omega, by omega⟩
  have wK : IntKind.i64.wrap (K : Int) = (K : Int) := IntWalk.i64_in _ ⟨by omega, by omega⟩
  have wN : IntKind.i64.wrap (N : Int) = (N : Int) := IntWalk.i64_in _ ⟨by omega, by omega⟩
  have wS : IntKind.i64.wrap (S : Int) = (S : Int) := IntWalk.i64_in _ ⟨by omega, by omega⟩
  obtain ⟨L, hLL⟩ : ∃ L, P.map (D.someE (N : Int)) = L := ⟨_, rfl⟩
  obtain ⟨M, hM⟩ : ∃ M, madeL x P = M := ⟨_, rfl⟩
  have HLL := Lib.hid hLL
  have HM := Lib.hid hM
  have HLl := Lib.hid (show L.length = P.length by rw [← hLL, List.length_map])
  have HL5 := Lib.hid (show L.length ≤ 500000 by rw [HLl.out]; omega)
  have HNm := Lib.hid (show D.normC (N : Int) L = (0, M) by rw [← hLL, ← hN, ← hM]; exact made_norm hx8 hl)
  have HMl := Lib.hid (show M.length ≤ 100000 by have := made_len x P; rw [hM] at this; omega)
  have HN2 := Lib.hid (show 2 ≤ (N : Int) ∧ (N : Int) ≤ 256 by omega)
  have HCS := Lib.hid (fun V => cuts_at N S V (by omega) (by omega))
  obtain ⟨lo, hlo⟩ : ∃ lo : Int, ((K * N / S : Nat) : Int) = lo := ⟨_, rfl⟩
  obtain ⟨hi, hhi⟩ : ∃ hi : Int, (((K + 1) * N / S : Nat) : Int) = hi := ⟨_, rfl⟩
  have HCA := Lib.hid (show (cutO N S)[K]? = some (lo, hi) by rw [cut_at' hKS, hlo, hhi])
  have HLH := Lib.hid (show 0 ≤ lo ∧ lo < hi ∧ hi ≤ madeN x by
    have hc := cut_in (n := N) (s := S) (k := K) (by omega) hKS
    exact ⟨by rw [← hlo]; exact Int.natCast_nonneg _, by rw [← hlo, ← hhi]; exact Int.ofNat_lt.2 hc.1, by rw [hN, ← hhi]; exact Int.ofNat_le.2 hc.2⟩)
  obtain ⟨W1, hW1, gW1, bW1, sW1⟩ := box_new w (.cells #[.int .i64 0, .int .i64 0, .slice none 0 0] 28 (0, 0))
  have HL := Lib.hid (hL.below bW1 (Nat.le_refl _))
  have HB1 := Lib.hid bW1
  have HZ1 := Lib.hid (show Box3 W1 w.heap.size 0 0 (.slice none 0 0) from gW1)
  have HB8 := Lib.hid hb8
  have HLen := Lib.hid hl
  have HMK := Lib.hid (fun Ae ce V h => make_new Ae ce M lo hi V h HMl.out)
  unfold partV at HMK
  clear hx8 hy8 hNi hSi hN hS hLL hM hL hb8 hl hlo hhi hKS gW1 bW1
  go_enter Try.func24, Try.ntmps24
  go_upto_region 3 with (first
    | (go_at_call 25; refine (c_norm (L := L) HLl.out HNm.out L2.out HL5.out).mono ?_; rintro e w3 ⟨A3, c3, rfl, h1, hb⟩; have L3N := Lib.hid h1; have L3 := Lib.hid (h1 (fun _ => False) w3 (Fr.refl _ _) (fun _ e => e.elim)); have HLT2 := Lib.hid (lt_of_heap HZ2.out); have B3 := Lib.hid (B2.out.trans (hb.mono B2.out.size)); have HZ3 := Lib.hid ((Fr.of_below hb).keep HZ2.out (fun e => e)); clear h1 hb)
    | (go_at_call 26; refine (D.c_some HLL.out HN2.out HL.out HB8.out HLen.out).mono ?_; rintro e w2 ⟨A2, c2, rfl, h1, hb⟩; have L2 := Lib.hid h1; have B2 := Lib.hid (HB1.out.trans (hb.mono HB1.out.size)); have HZ2 := Lib.hid ((Fr.of_below hb).keep HZ1.out (fun e => e)); clear h1 hb))
  go_upto_region 6 with (go_at_call 27; refine (HCS.out _).mono ?_; rintro e w4 ⟨g, rfl, h1, hb⟩; have LC4 := Lib.hid h1; have L4 := Lib.hid (L3.out.below hb (Nat.le_refl _)); have HB34 := Lib.hid hb; have B4 := Lib.hid (B3.out.trans (hb.mono B3.out.size)); have HZ4 := Lib.hid ((Fr.of_below hb).keep HZ3.out (fun e => e)); obtain ⟨k0, k1⟩ := lies2at h1 HCA.out; clear h1 hb)
  go_wp2_with (go_at_call 11; refine (HMK.out _ _ _ L4.out).mono ?_; rintro e w5 ⟨A5, c5, rfl, h1, hc, hb⟩; have LR5 := Lib.hid h1; have HC5 := Lib.hid hc; have L5 := Lib.hid (L4.out.below hb (Nat.le_refl _)); have HB45 := Lib.hid hb; have B5 := Lib.hid (B4.out.trans (hb.mono B4.out.size)); have HZ5 := Lib.hid ((Fr.of_below hb).keep HZ4.out (fun e => e)); obtain ⟨z0, z1, z2, f0, f1, f2⟩ := Box3.cells HZ5.out; clear h1 hc hb)
  obtain ⟨W6, hW6⟩ : ∃ V, ((w5.setCell ⟨w.heap.size, 0, none⟩ (.int .i64 (mkS lo hi M).1)).setCell ⟨w.heap.size, 1, none⟩ (.int .i64 (mkS lo hi M).2.1)).setCell ⟨w.heap.size, 2, none⟩ (.slice A5 (mkS lo hi M).2.2.length c5) = V := ⟨_, rfl⟩
  have q := set_box3 HZ5.out (mkS lo hi M).1 (mkS lo hi M).2.1 (.slice A5 (mkS lo hi M).2.2.length c5)
  rw [hW6] at q ⊢
  obtain ⟨r0, r1, r2, _, _, _⟩ := Box3.cells q.1
  have L6 := Lib.hid (L3N.out _ _ ((((Fr.of_below HB34.out).mono (fun _ e => e.elim)).trans ((Fr.of_below HB45.out).mono (fun _ e => e.elim))).trans q.2) (fun k e => by have e' : k = w.heap.size := e; rw [e']; exact HLT2.out))
  have HR6 := Lib.hid (LR5.out _ _ q.2 (fun k e => by have e' : k = w.heap.size := e; rw [e']; exact lt_of_heap HZ4.out))
  have HB6 := Lib.hid (B5.out.trans (q.2.below (Nat.le_of_lt (lt_of_heap HZ5.out)) (fun k e => by have e' : k = w.heap.size := e; omega)))
  clear hW6 z0 z1 z2 f0 f1 f2
  exact bodyPost_ret (v := .tuple #[.slice A3 M.length c3, .agg #[.int .i64 (mkS lo hi M).1, .int .i64 (mkS lo hi M).2.1, .slice A5 (mkS lo hi M).2.2.length c5], .bool true]) (by simp [results, Try.results24, go_sem, r0, r1, r2]) rfl ⟨A3, c3, A5, c5, lo, hi, by rw [HM.out], by rw [HM.out]; exact L6.out, by rw [HM.out]; exact HR6.out, by rw [HM.out]; exact HC5.out, HLH.out, HB6.out⟩
end Go.Proofs.Ytdlmkdldmiiaiaa.E
