/- shards: Decode walked. Conditions: those that each theorem names. -/
import Derived.Test.YtdlmkdldmiiaiaaDcr
namespace Go.Proofs.Ytdlmkdldmiiaiaa.E
open Go.RowKit Go.Sort Go.Shelf
open Go.Proofs.Ytdlmkdldmiiaiaa.Ma Go.Proofs.Ytdlmkdldmiiaiaa.By Go.Proofs.Ytdlmkdldmiiaiaa.Enc
set_option linter.unusedVariables false
set_option linter.unusedSimpArgs false
theorem ne_bytes {a b : ByteArray} (h : ¬ a = b) : (a.toList == b.toList) = false := by
  rw [ByteArray.toList_eq, ByteArray.toList_eq, beq_eq_false_iff_ne]
  exact fun e => h (ByteArray.ext (Array.toList_inj.1 e))
abbrev Box3 (w : World) (b : Nat) (x y : Int) (v : Value) : Prop := w.heap[b]? = some (.cells #[.int .i64 x, .int .i64 y, v] 28 (0, 0))
theorem manyC_snoc (O : List (List Int)) (L : List Int) : manyC (O ++ [L]) = manyC O + L.length := by unfold manyC; simp
theorem set_box3 {w : World} {G : Nat} {x y : Int} {v : Value} (h : Box3 w G x y v) (x' y' : Int) (v' : Value) : Box3 (((w.setCell ⟨G, 0, none⟩ (.int .i64 x')).setCell ⟨G, 1, none⟩ (.int .i64 y')).setCell ⟨G, 2, none⟩ v') G x' y' v' ∧ Fr (fun k => k = G) w (((w.setCell ⟨G, 0, none⟩ (.int .i64 x')).setCell ⟨G, 1, none⟩ (.int .i64 y')).setCell ⟨G, 2, none⟩ v') :=
  ⟨heap_setCell_at (heap_setCell_at (heap_setCell_at h _) _) _, ((Fr.setCell w ⟨G, 0, none⟩ _).trans (Fr.setCell _ ⟨G, 1, none⟩ _)).trans (Fr.setCell _ ⟨G, 2, none⟩ _)⟩
theorem Box3.cells {w : World} {G : Nat} {x y : Int} {v : Value} (h : Box3 w G x y v) : w.cell? ⟨G, 0, none⟩ = some (.int .i64 x) ∧ w.cell? ⟨G, 1, none⟩ = some (.int .i64 y) ∧ w.cell? ⟨G, 2, none⟩ = some v ∧ w.frozen? ⟨G, 0, none⟩ = false ∧ w.frozen? ⟨G, 1, none⟩ = false ∧ w.frozen? ⟨G, 2, none⟩ = false :=
  ⟨cell_of_heap h rfl, cell_of_heap h rfl, cell_of_heap h rfl, free_of_heap h (by simp), free_of_heap h (by simp), free_of_heap h (by simp)⟩
theorem lies_set {w : World} {p : Addr} {u : Value} {O : List (List Int)} {B : Nat} {v : Value} (h : OutR B w v O) (hp : ∀ cs fz, w.heap[p.block]? ≠ some (.cells cs 3 fz)) (hv : v.ownBlock ≠ some p.block) : OutR B (w.setCell p u) v O :=
  h.fr (Fr.setCell w p u) (fun k e => by have e' : k = p.block := e; subst e'; exact hp) (fun k e => by have e' : k = p.block := e; subst e'; exact hv)
set_option maxRecDepth 100000 in
set_option maxHeartbeats 4000000 in
theorem decS_at (s : ByteArray) (w : World) (hs : s.size ≤ 1000000) :
    Calls Try.prog 15 #[.string s] w fun e w' => ∃ A c, e = .returned (.tuple #[shV (decS s).1 (decS s).2.1 A (decS s).2.2.1.length c, .int .i64 (decS s).2.2.2]) ∧ LiesR w' A (decS s).2.2.1 ∧ ((decS s).2.2.1.length ≤ c ∧ c ≤ 9223372036854775807) ∧ Below w.heap.size w w' := by
  unfold decS
  obtain ⟨⟨a0lo, a0hi⟩, hp⟩ := partC_in s
  obtain ⟨⟨⟨lo, hi⟩, a0, b0⟩, hP⟩ : ∃ P, partC s = P := ⟨_, rfl⟩
  have HPT := Lib.hid (fun R V (hV : RdS R V s 0 false) => part_at R s V hV hs)
  unfold partV at HPT
  rw [hP] at HPT hp a0lo a0hi ⊢
  dsimp only at HPT hp a0lo a0hi ⊢
  obtain ⟨n, hn⟩ : ∃ n : Nat, hi - lo = (n : Int) := ⟨(hi - lo).toNat, by omega⟩
  rw [hn, Int.toNat_natCast]
  obtain ⟨⟨OF, aF, bF⟩, hF⟩ : ∃ F, lstsC s n a0 b0 = F := ⟨_, rfl⟩
  rw [hF]
  dsimp only
  obtain ⟨⟨dl, dh, dO, de⟩, hD⟩ : ∃ D, decZ s lo hi OF bF = D := ⟨_, rfl⟩
  rw [hD]
  dsimp only
  unfold shV
  have HD := Lib.hid hD
  have HF := Lib.hid (show (([] : List (List Int)) ++ (lstsC s (n - 0) a0 b0).1, (lstsC s (n - 0) a0 b0).2) = (OF, aF, bF) by rw [Nat.sub_zero, hF]; rfl)
  have HSS := Lib.hid hs
  have HA0 := Lib.hid (And.intro a0lo a0hi)
  have HN := Lib.hid (show n ≤ 256 by omega)
  have HLI := Lib.hid (fun R V a b (hV : RdS R V s a b) => rlist_at R s a b V hV hs)
  have HEN := Lib.hid (fun A c O V (h1 : LiesR V A O) (h2 : O.length ≤ 1000000) (h3 : manyC O ≤ 1000000) => encS_at lo hi A c O V h1 h2 h3)
  unfold shV at HEN
  obtain ⟨W0, hW0, gW0, bW0, sW0⟩ := box_new w (.cells #[.int .i64 0, .int .i64 0, .slice none 0 0] 28 (0, 0))
  obtain ⟨W1, hW1, gW1, bW1, sW1⟩ := box_new W0 (.cells #[.string s, .int .i64 0, .bool false] 70 (0, 0))
  have HZ := Lib.hid (show Box3 W1 w.heap.size 0 0 (.slice none 0 0) from (Fr.of_below bW1).keep gW0 (fun e => e))
  have HR := Lib.hid (show RdS W0.heap.size W1 s 0 false from gW1)
  have HB1 := Lib.hid (show Below w.heap.size w W1 from bW0.trans (bW1.mono bW0.size))
  have HSZ := Lib.hid (show W0.heap.size = w.heap.size + 1 ∧ W1.heap.size = W0.heap.size + 1 from ⟨sW0, sW1⟩)
  obtain ⟨R, hR⟩ : ∃ R, W0.heap.size = R := ⟨_, rfl⟩
  rw [hR] at HR HSZ
  have k1 : lo ≤ 256 := by omega
  have k0 : 0 ≤ lo := by omega
  have k2 : hi ≤ 256 := by omega
  have k3 : 0 ≤ hi := by omega
  have HHN := Lib.hid hn
  clear a0lo a0hi hp hP hF hD hs gW0 bW0 sW0 gW1 bW1 sW1
  go_enter Try.func15, Try.ntmps15
  go_upto_region 2 with (fail)
  go_upto_region 3 with (go_at_call 33; refine (HPT.out R W1 HR.out).mono ?_; rintro e w2 ⟨rfl, hr2, hf2⟩; have HR2 := Lib.hid hr2; have HF2 := Lib.hid hf2; clear hr2 hf2)
  obtain ⟨Sb, hSb⟩ : ∃ Sb, w2.heap.size = Sb := ⟨_, rfl⟩
  have HSB := Lib.hid hSb
  have HRS := Lib.hid (show R < Sb by rw [← hSb]; exact HR2.out.lt)
  obtain ⟨W3, hW3, gW3, bW3, sW3⟩ := box_new w2 (.cells #[.int .i64 lo, .int .i64 hi, .slice none 0 0] 28 (0, 0))
  rw [hSb] at gW3
  have GS := Lib.hid (show Box3 W3 Sb lo hi (.slice none 0 0) from gW3)
  have HR3 := Lib.hid (HR2.out.to bW3)
  have HF3 := Lib.hid (show Fr (fun k => R ≤ k) W1 W3 from (HF2.out.trans ((Fr.of_below bW3).mono (fun _ e => e.elim))).mono (fun k e => by rw [e]; exact Nat.le_refl _))
  have HSL := Lib.hid (show Sb ≤ W3.heap.size by rw [sW3, hSb]; omega)
  obtain ⟨q0, q1, q2, _, _, _⟩ := GS.out.cells
  rw [hW3, hSb]
  clear gW3 bW3 sW3 hR hW0 hW1 hSb hW3
  go_wp2
  clear q0 q1 q2
  go_loopw [22] (fun i wi => ∃ (k : Nat) (O : List (List Int)) (a : Int) (bad : Bool) (v : Value), i = .int .i64 (k : Int) ∧ k ≤ n ∧ O.length = k ∧ (O ++ (lstsC s (n - k) a bad).1, (lstsC s (n - k) a bad).2) = (OF, aF, bF) ∧ (0 ≤ a ∧ a ≤ s.size) ∧ (manyC O : Int) ≤ a ∧ RdS R wi s a bad ∧ Box3 wi Sb lo hi v ∧ OutR Sb wi v O ∧ Fr (fun k => R ≤ k) W1 wi ∧ Sb ≤ wi.heap.size) (fun i _ => n - (intOf i).toNat)
  case atStart => exact ⟨0, [], a0, b0, _, rfl, by omega, rfl, HF.out, HA0.out, by have := HA0.out.1; show ((0 : Nat) : Int) ≤ a0; omega, HR3.out, GS.out, OutR.nil _ _, HF3.out, HSL.out⟩
  case round =>
    obtain ⟨k, O, a, bad, v, rfl, hk, hO, hF, ha, hm, hr, hg, ho, hf, hs⟩ := hrel
    have HRr := Lib.hid hr
    have HGr := Lib.hid hg
    have HFr := Lib.hid hf
    have HAr := Lib.hid ha
    have HMr := Lib.hid hm
    have HSr := Lib.hid hs
    have HOL := Lib.hid hO
    by_cases hlt : k < n
    · obtain ⟨V, hV, hVl, hV1, hVr⟩ := ho.row
      obtain ⟨d, hd⟩ : ∃ d, n - k = d + 1 := ⟨n - k - 1, by omega⟩
      rw [hd] at hF
      have hlb := lstC_bound (bad := bad) ha
      unfold lstsC at hF
      have HL := Lib.hid (HLI.out R wr.drew a bad hr)
      obtain ⟨⟨L, a', b'⟩, hL⟩ : ∃ X, lstC s a bad = X := ⟨_, rfl⟩
      rw [hL] at hF HL hlb
      dsimp only at hF HL hlb
      have HFN := Lib.hid (show ((O ++ [L]) ++ (lstsC s (n - (k + 1)) a' b').1, (lstsC s (n - (k + 1)) a' b').2) = (OF, aF, bF) by
        rw [show n - (k + 1) = d by omega, ← hF]
        simp)
      have HLB := Lib.hid (And.intro (show 0 ≤ a' ∧ a' ≤ s.size by omega) (show (manyC (O ++ [L]) : Int) ≤ a' by rw [manyC_snoc]; push_cast; omega))
      have HVR := Lib.hid (And.intro hV (And.intro hVl (And.intro hV1 hVr)))
      have HVL := Lib.hid (show V.length ≤ 100000 by rw [hVl, hO]; have := HN.out; omega)
      have i1 : (k : Int) < (n : Int) := by omega
      have i2 : (k : Int) < 1000 := by have := HN.out; omega
      have HK := Lib.hid hlt
      obtain ⟨q0, q1, q2, _, _, _⟩ := hg.cells
      clear hV hVl hV1 hVr hd hF hlb hL hk hO ha hm hr hg ho hf hs hlt
      go_upto_region 5 with (fail)
      go_region_law ((first
          | (refine step_appV (by rfl) _ _ (by rfl) Sb V (.slice A4 L.length c4) rfl v (by rfl) K4.out w4.heap.size (by rfl) (heap_alloc_new w4 _) HVL.out L4.out ?_; intro A5 c5 w5 hr5 hf5; have R5 := Lib.hid hr5; have F5 := Lib.hid hf5; have G5 := Lib.hid (show Box3 w5 Sb lo hi v from hf5.keep N4.out.1 N4.out.2); obtain ⟨_, _, d5, _, _, f5⟩ := G5.out.cells; clear hr5 hf5)
          | (go_simp; go_at_call 34; refine HL.out.mono ?_; rintro e w4 ⟨A4, c4, rfl, hrow, hrd, hfr⟩;
             have HROW := Lib.hid hrow; have HRD := Lib.hid hrd; have HFR := Lib.hid (((Fr.drew wr).mono (T := fun k => k = R) (fun _ e => e.elim)).trans hfr);
             have G4 := Lib.hid (show Box3 w4 Sb lo hi v from HFR.out.keep HGr.out (fun e => Nat.ne_of_gt HRS.out e));
             have d4 := G4.out.cells.2.2.1;
             have e4 : (w4.alloc (.cells #[.slice A4 L.length c4] 62)).cell? ⟨Sb, 2, none⟩ = some v := (Fr.alloc w4 _).cell d4 (lt_of_heap G4.out) (fun e => e);
             have K4 := Lib.hid (show (w4.alloc (.cells #[.slice A4 L.length c4] 62)).ownsRow Sb 62 1 v V.length V from (Fr.alloc w4 _).row (HFR.out.row HVR.out.1 (fun g hg e => by have := (rowV_kind HVR.out.1 g hg).1; have := HRS.out; omega)) (fun _ _ e => e));
             have L4 := Lib.hid (show Sb ≤ (w4.alloc (.cells #[.slice A4 L.length c4] 62)).heap.size from Nat.le_trans HSr.out (Nat.le_trans HFR.out.size (by simp)));
             have N4 := Lib.hid (And.intro (show (w4.alloc (.cells #[.slice A4 L.length c4] 62)).heap[Sb]? = some (.cells #[.int .i64 lo, .int .i64 hi, v] 28 (0, 0)) from (Fr.alloc w4 _).keep G4.out (fun e => e)) (show ¬ v.ownBlock = some Sb from fun e => by obtain ⟨_, _, cs, fz, hc⟩ := rowV_kind K4.out Sb e; rw [(Fr.alloc w4 (.cells #[.slice A4 L.length c4] 62)).keep G4.out (fun e => e)] at hc; cases hc));
             clear hrow hrd hfr)))
      all_goals
        have HRK := Lib.hid (show ∀ (j : Nat) (y : Value) (M : List Int), V[j]? = some y → O[j]? = some M → ∃ B', (w4.alloc (.cells #[.slice A4 L.length c4] 62)).ownsRow B' 3 1 y M.length (cellsK encI M) from fun j y M hy hM => by
          obtain ⟨B', q⟩ := HVR.out.2.2.2 j y M hy hM
          refine ⟨B', (Fr.alloc w4 _).row (row_kept q HFR.out (fun g e cs fz hc => ?_)) (fun _ _ e => e)⟩
          have e' : g = R := e
          subst e'
          have h := HRr.out
          unfold RdS at h
          rw [h] at hc
          cases hc)
        have OA := Lib.hid (OutR.app K4.out HVR.out.2.1 HVR.out.2.2.1 HRK.out ⟨_, (Fr.alloc w4 (.cells #[.slice A4 L.length c4] 62)).row HROW.out (fun _ _ e => e)⟩ rfl F5.out R5.out)
        have NV := Lib.hid (show (Value.slice A5 (V ++ [Value.slice A4 L.length c4]).length c5).ownBlock ≠ some Sb from fun e => by
          obtain ⟨_, _, cs, fz, hc⟩ := rowV_kind R5.out Sb e
          have := G5.out
          unfold Box3 at this
          rw [this] at hc
          cases hc)
        have NVR := Lib.hid (show ∀ g, v.ownBlock = some g → R < g from fun g hg => Nat.lt_of_lt_of_le HRS.out (rowV_kind K4.out g hg).1)
        have RD5 := Lib.hid (show RdS R w5 s a' b' from (HRD.out.fr ((Fr.alloc w4 (.cells #[.slice A4 L.length c4] 62)).mono (T := fun _ => False) (fun _ e => e)) (fun e => e)).fr F5.out (fun e => Nat.lt_irrefl _ (NVR.out R e)))
        have FF5 := Lib.hid (show Fr (fun k => R ≤ k) W1 w5 from ((HFr.out.trans (HFR.out.mono (fun k e => by rw [e]; exact Nat.le_refl _))).trans ((Fr.alloc w4 (.cells #[.slice A4 L.length c4] 62)).mono (fun _ e => e.elim))).trans (F5.out.mono (fun k e => Nat.le_of_lt (NVR.out k e))))
        have SZ5 := Lib.hid (show Sb ≤ w5.heap.size from Nat.le_trans L4.out F5.out.size)
        go_wp2
        go_roundw
        case rel =>
          refine ⟨k + 1, O ++ [L], a', b', _, by go_num, HK.out, by rw [List.length_append, HOL.out]; rfl, HFN.out, HLB.out.1, HLB.out.2, RD5.out.fr (Fr.setCell w5 ⟨Sb, 2, none⟩ _) (fun e => Nat.ne_of_lt HRS.out e), heap_setCell_at G5.out _, ?_, FF5.out.trans ((Fr.setCell w5 ⟨Sb, 2, none⟩ _).mono (fun k e => by have e' : k = Sb := e; rw [e']; exact Nat.le_of_lt HRS.out)), Nat.le_trans SZ5.out (Fr.setCell w5 ⟨Sb, 2, none⟩ _).size⟩
          have := lies_set (p := ⟨Sb, 2, none⟩) (u := .slice A5 (V ++ [Value.slice A4 L.length c4]).length c5) OA.out (fun cs fz hc => by have h := G5.out; unfold Box3 at h; rw [h] at hc; cases hc) NV.out
          simpa using this
        case measure => have := HK.out; simp [intOf]; omega
    · obtain rfl : k = n := by omega
      rw [Nat.sub_self] at hF
      have hF' : (O, a, bad) = (OF, aF, bF) := by rw [← hF]; simp [lstsC]
      cases hF'
      have HOr := Lib.hid ho
      have ZR := Lib.hid (show w.heap.size < R by have := HSZ.out; omega)
      have HZr := Lib.hid (show Box3 wr w.heap.size 0 0 (.slice none 0 0) from HFr.out.keep HZ.out (fun e => Nat.not_le_of_lt ZR.out e))
      have HBr := Lib.hid (show Below w.heap.size w wr from HB1.out.trans (HFr.out.below (B := w.heap.size) (by have := HB1.out.size; exact this) (fun g e => Nat.le_of_lt (Nat.lt_of_lt_of_le ZR.out e))))
      obtain ⟨c0, c1, c2, f1, f2⟩ := hr.cells
      cases bF with
      | true =>
        have hd := HD.out
        unfold decZ at hd
        rw [if_pos (.inl rfl)] at hd
        cases hd
        clear hF hk hO ha hm hr hg ho hf hs hlt
        obtain ⟨z0, z1, z2, y0, y1, y2⟩ := HZr.out.cells
        go_wp2
        obtain ⟨w11, hw11⟩ : ∃ V, ((wr.setCell ⟨w.heap.size, 0, none⟩ (.int .i64 0)).setCell ⟨w.heap.size, 1, none⟩ (.int .i64 0)).setCell ⟨w.heap.size, 2, none⟩ (.slice none 0 0) = V := ⟨_, rfl⟩
        have q := set_box3 HZr.out 0 0 (.slice none 0 0)
        rw [hw11] at q ⊢
        obtain ⟨r0, r1, r2, _, _, _⟩ := Box3.cells q.1
        have Q := Lib.hid (HBr.out.trans (q.2.below (B := w.heap.size) (by have := HBr.out.size; omega) (fun k e => by rw [e]; exact Nat.le_refl _)))
        clear hw11 q z0 z1 z2 y0 y1 y2
        exact bodyPost_ret (v := .tuple #[.agg #[.int .i64 0, .int .i64 0, .slice none 0 0], .int .i64 10]) (by simp [results, Try.results15, go_sem, r0, r1, r2]) rfl ⟨none, 0, rfl, fun j L hL => by simp at hL, ⟨by simp, by omega⟩, Q.out⟩
      | false =>
        obtain ⟨V, hV, hVl, hV1, hVr⟩ := ho.row
        obtain ⟨A9, c9, rfl, _, _⟩ := row_open encV_len (show wr.ownsRow Sb 62 1 v V.length (cellsK encV V) by rw [cellsV]; exact hV)
        rw [hVl] at hV ho HOr hg HGr
        obtain ⟨hlies, hc1, hc2⟩ := ho.lies
        have HE := Lib.hid (HEN.out A9 c9 OF wr hlies (by have := HN.out; omega) (by have := HSS.out; omega))
        obtain ⟨t, e0, he⟩ : ∃ t e, encS lo hi OF = (t, e) := ⟨_, _, rfl⟩
        rw [he] at HE
        dsimp only at HE
        have hd := HD.out
        unfold decZ at hd
        rw [he] at hd
        dsimp only at hd
        obtain ⟨q0, q1, q2, _, _, _⟩ := hg.cells
        obtain ⟨tb, htb⟩ : ∃ b, bytesB t = b := ⟨_, rfl⟩
        rw [htb] at HE hd
        by_cases h0 : e0 = 0
        · subst h0
          by_cases hts : tb = s
          · subst hts
            rw [if_neg (by simp)] at hd
            cases hd
            have HCC := Lib.hid (And.intro hc1 hc2)
            clear hF hk hO ha hm hr hg ho hf hs hlt hV hV1 hVr hVl hlies he htb hc1 hc2
            go_upto_region 10 with (go_at_call 16; refine HE.out.mono ?_; rintro e w5 ⟨rfl, hb5⟩; have HB5 := Lib.hid hb5; clear hb5)
            clear q0 q1 q2 c0 c1 c2 f1 f2
            have Z5 := Lib.hid (show Box3 w5 w.heap.size 0 0 (.slice none 0 0) from (Fr.of_below HB5.out).keep HZr.out (fun e => e))
            have G5 := Lib.hid (show Box3 w5 Sb lo hi (.slice A9 OF.length c9) from (Fr.of_below HB5.out).keep HGr.out (fun e => e))
            have O5 := Lib.hid (HOr.out.fr (Fr.of_below HB5.out) (fun _ e => e.elim) (fun _ e => e.elim))
            have B5 := Lib.hid (HBr.out.trans (HB5.out.mono HBr.out.size))
            obtain ⟨q0, q1, q2, _, _, _⟩ := G5.out.cells
            obtain ⟨z0, z1, z2, y0, y1, y2⟩ := Z5.out.cells
            go_wp2
            obtain ⟨w11, hw11⟩ : ∃ V, ((w5.setCell ⟨w.heap.size, 0, none⟩ (.int .i64 lo)).setCell ⟨w.heap.size, 1, none⟩ (.int .i64 hi)).setCell ⟨w.heap.size, 2, none⟩ (.slice A9 OF.length c9) = V := ⟨_, rfl⟩
            have q := set_box3 Z5.out lo hi (.slice A9 OF.length c9)
            have hO11 : OutR Sb w11 (.slice A9 OF.length c9) OF := by
              rw [← hw11]
              refine O5.out.fr q.2 (fun k e cs fz hc => ?_) (fun k e hv => ?_)
              · have e' : k = w.heap.size := e
                subst e'
                have h := Z5.out
                unfold Box3 at h
                rw [h] at hc
                cases hc
              · have e' : k = w.heap.size := e
                obtain ⟨V', hV', _, _, _⟩ := O5.out.row
                have := (rowV_kind hV' k hv).1
                have := HRS.out
                have := ZR.out
                omega
            have HO11 := Lib.hid hO11.lies
            rw [hw11] at q ⊢
            obtain ⟨r0, r1, r2, _, _, _⟩ := Box3.cells q.1
            have Q := Lib.hid (B5.out.trans (q.2.below (B := w.heap.size) (by have := B5.out.size; omega) (fun k e => by rw [e]; exact Nat.le_refl _)))
            clear hw11 q z0 z1 z2 y0 y1 y2 q0 q1 q2 hO11
            exact bodyPost_ret (v := .tuple #[.agg #[.int .i64 lo, .int .i64 hi, .slice A9 OF.length c9], .int .i64 0]) (by simp [results, Try.results15, go_sem, r0, r1, r2]) rfl ⟨A9, c9, rfl, HO11.out.1, HO11.out.2, Q.out⟩
          · rw [if_pos (.inr (.inr hts))] at hd
            cases hd
            have jt : (tb.toList == s.toList) = false := ne_bytes hts
            clear hts
            clear hF hk hO ha hm hr hg ho hf hs hlt hV hV1 hVr hVl hlies he htb hc1 hc2
            go_upto_region 11 with (go_at_call 16; refine HE.out.mono ?_; rintro e w5 ⟨rfl, hb5⟩; have HB5 := Lib.hid hb5; clear hb5)
            clear q0 q1 q2 c0 c1 c2 f1 f2
            have Z5 := Lib.hid (show Box3 w5 w.heap.size 0 0 (.slice none 0 0) from (Fr.of_below HB5.out).keep HZr.out (fun e => e))
            have B5 := Lib.hid (HBr.out.trans (HB5.out.mono HBr.out.size))
            obtain ⟨z0, z1, z2, y0, y1, y2⟩ := Z5.out.cells
            go_wp2
            obtain ⟨w11, hw11⟩ : ∃ V, ((w5.setCell ⟨w.heap.size, 0, none⟩ (.int .i64 0)).setCell ⟨w.heap.size, 1, none⟩ (.int .i64 0)).setCell ⟨w.heap.size, 2, none⟩ (.slice none 0 0) = V := ⟨_, rfl⟩
            have q := set_box3 Z5.out 0 0 (.slice none 0 0)
            rw [hw11] at q ⊢
            obtain ⟨r0, r1, r2, _, _, _⟩ := Box3.cells q.1
            have Q := Lib.hid (B5.out.trans (q.2.below (B := w.heap.size) (by have := B5.out.size; omega) (fun k e => by rw [e]; exact Nat.le_refl _)))
            clear hw11 q z0 z1 z2 y0 y1 y2
            exact bodyPost_ret (v := .tuple #[.agg #[.int .i64 0, .int .i64 0, .slice none 0 0], .int .i64 10]) (by simp [results, Try.results15, go_sem, r0, r1, r2]) rfl ⟨none, 0, rfl, fun j L hL => by simp at hL, ⟨by simp, by omega⟩, Q.out⟩
        · rw [if_pos (.inr (.inl h0))] at hd
          cases hd
          have je : (e0 != 0) = true := by simpa using h0
          clear h0
          clear hF hk hO ha hm hr hg ho hf hs hlt hV hV1 hVr hVl hlies he htb hc1 hc2
          go_upto_region 11 with (go_at_call 16; refine HE.out.mono ?_; rintro e w5 ⟨rfl, hb5⟩; have HB5 := Lib.hid hb5; clear hb5)
          clear q0 q1 q2 c0 c1 c2 f1 f2
          have Z5 := Lib.hid (show Box3 w5 w.heap.size 0 0 (.slice none 0 0) from (Fr.of_below HB5.out).keep HZr.out (fun e => e))
          have B5 := Lib.hid (HBr.out.trans (HB5.out.mono HBr.out.size))
          obtain ⟨z0, z1, z2, y0, y1, y2⟩ := Z5.out.cells
          go_wp2
          obtain ⟨w11, hw11⟩ : ∃ V, ((w5.setCell ⟨w.heap.size, 0, none⟩ (.int .i64 0)).setCell ⟨w.heap.size, 1, none⟩ (.int .i64 0)).setCell ⟨w.heap.size, 2, none⟩ (.slice none 0 0) = V := ⟨_, rfl⟩
          have q := set_box3 Z5.out 0 0 (.slice none 0 0)
          rw [hw11] at q ⊢
          obtain ⟨r0, r1, r2, _, _, _⟩ := Box3.cells q.1
          have Q := Lib.hid (B5.out.trans (q.2.below (B := w.heap.size) (by have := B5.out.size; omega) (fun k e => by rw [e]; exact Nat.le_refl _)))
          clear hw11 q z0 z1 z2 y0 y1 y2
          exact bodyPost_ret (v := .tuple #[.agg #[.int .i64 0, .int .i64 0, .slice none 0 0], .int .i64 10]) (by simp [results, Try.results15, go_sem, r0, r1, r2]) rfl ⟨none, 0, rfl, fun j L hL => by simp at hL, ⟨by simp, by omega⟩, Q.out⟩
end Go.Proofs.Ytdlmkdldmiiaiaa.E
