/- TruthCores: the law walked. -/
import Derived.Test.YtpmgkmodpneiiaaCrp
import Derived.Test.YtpmgkmodpneiiaaOpg
namespace Go.Proofs.Ytpmgkmodpneiiaa.E
open Go.RowKit Go.Sort Go.Shelf
open Go.Proofs.Ytpmgkmodpneiiaa.Ma
set_option linter.unusedVariables false
set_option linter.unusedSimpArgs false
def iC (out : List Nat) : Array Value := (out.map fun x : Nat => Value.int .i64 (x : Int)).toArray
/-- A block that holds these ints. -/
def IB (w : World) (g : Nat) (out : List Nat) : Prop := w.heap[g]? = some (.cells (iC out) 3 (0, 0))
theorem IB.cell {w : World} {g : Nat} {out : List Nat} (h : IB w g out) {v : Nat} (hv : v < out.length) : w.cell? ⟨g, v, none⟩ = some (.int .i64 (at_ out v : Int)) :=
  cell_of_heap h (by simp [iC, at_, List.getD, hv])
theorem IB.free {w : World} {g : Nat} {out : List Nat} (h : IB w g out) {v : Nat} (hv : v < out.length) : w.frozen? ⟨g, v, none⟩ = false := free_of_heap h (by simpa [iC] using hv)
theorem IB.set {w : World} {g : Nat} {out : List Nat} (h : IB w g out) (v x : Nat) : IB (w.setCell ⟨g, v, none⟩ (.int .i64 (x : Int))) g (out.set v x) := by
  unfold IB
  rw [heap_setCell_at h]
  simp [iC, List.map_set]
theorem IB.fr {S : Nat → Prop} {w w' : World} {g : Nat} {out : List Nat} (h : IB w g out) (hf : Fr S w w') (hS : ¬ S g) : IB w' g out := hf.keep h hS
theorem make_i (N : Nat) (h : N ≤ 1000) (w : World) : (Instr.makeSlice 54 (.int .i64 (N : Int)) (.int .i64 (N : Int))).run Try.prog w = .ok (.slice (some ⟨w.heap.size, 0, none⟩) N N) (w.alloc (.cells (iC (List.replicate N 0)) 3 (0, 0))) := by
  obtain ⟨i0, hi, hz0, hz1, hz2⟩ := info_parts info3'
  have hr := run_makeSlice (P := Try.prog) w 54 3 i0 _ Try.underlying54 hi hz0 .i64 .i64 (N : Int) (N : Int) (by omega) (by omega) (by rw [hz1]; omega) (by rw [hz2]; omega) (by omega)
  rw [hr]
  have e : madeCells (Value.int .i64 0).cells ((N : Int).toNat * i0.size) = iC (List.replicate N 0) := by
    apply Array.ext'
    rw [show (Value.int .i64 0).cells = #[Value.int .i64 0] from rfl, toList_madeCells_one, hz1]
    simp [iC]
  rw [e]
  simp
theorem plus_one {x : Nat} (h : x ≤ 600) : RowKit.wrap64 ((x : Int) + 1) = ((x + 1 : Nat) : Int) := by rw [IntWalk.wrap64_in _ ⟨by omega, by omega⟩]; omega
theorem plus_one2 {x : Nat} (h : x ≤ 600) : IntKind.i64.wrap ((x : Int) + 1) = ((x + 1 : Nat) : Int) := by rw [IntWalk.i64_in _ ⟨by omega, by omega⟩]; omega
attribute [local irreducible] wpQuiet
set_option maxRecDepth 100000 in
set_option maxHeartbeats 4000000 in
theorem corlaw_at (A : Option Addr) (c : Nat) (N s0 : Int) (P : List Ed) (w : World) (hN : 0 ≤ N ∧ N ≤ 255) (hs0 : 0 ≤ s0 ∧ s0 ≤ 255) (hL : Lies enc8 2 w A P) (hb8 : ∀ p ∈ P, (0 ≤ p.1 ∧ p.1 ≤ 255) ∧ 0 ≤ p.2 ∧ p.2 ≤ 255) (hlen : P.length ≤ 300) :
    Calls Try.prog 7 #[.agg #[.int .u8 N, .slice A P.length c], .int .u8 s0] w fun e w' => e = .returned (.bool true) ∧ Below w.heap.size w w' := by
  obtain ⟨W, hW, gW, hbl, hsz⟩ := box_new w (.cells #[.int .u8 N, .slice A P.length c] 41 (0, 0))
  have b0 : W.cell? ⟨w.heap.size, 0, none⟩ = some (.int .u8 N) := cell_of_heap (i := 0) gW rfl
  have b1 : W.cell? ⟨w.heap.size, 1, none⟩ = some (.slice A P.length c) := cell_of_heap (i := 1) gW rfl
  have HB := Lib.hid hbl
  have HMA := made_at A c N P W hN (hL.below hbl (Nat.le_refl _)) hb8 hlen
  have hg := made_good (N := N) hlen
  have hm := madeN_in (N := N)
  obtain ⟨n, hn⟩ : ∃ n : Nat, madeN N = (n : Int) := ⟨(madeN N).toNat, by omega⟩
  obtain ⟨L, hLL⟩ : ∃ L, madeL N P = L := ⟨_, rfl⟩
  rw [hn, hLL] at HMA
  rw [hn, hLL, Int.toNat_natCast] at hg
  have HM := Lib.hid HMA
  have HG := Lib.hid hg
  have hn1 := hg.n1
  have hn2 := hg.n2
  obtain ⟨d, hd⟩ : ∃ d : Nat, s0 % 12 = (d : Int) := ⟨(s0 % 12).toNat, by omega⟩
  have hd11 : d ≤ 11 := by omega
  have x0 : IntKind.i64.wrap s0 = s0 := wrap8 hs0
  have x1 : s0.tmod 12 = (d : Int) := by rw [← hd]; exact Int.tmod_eq_emod_of_nonneg hs0.1
  have x2 : RowKit.wrap64 ((d : Int) - 1) = (d : Int) - 1 := IntWalk.wrap64_in _ ⟨by omega, by omega⟩
  have x3 : IntKind.i64.wrap ((d : Int) - 1) = (d : Int) - 1 := IntWalk.i64_in _ ⟨by omega, by omega⟩
  obtain ⟨k1, hk1, hc1⟩ := core_iter hg d
  obtain ⟨k2, hk2, hc2⟩ := core_iter hg (d - 1)
  obtain ⟨st, hst⟩ : ∃ o, iterC d n L k1 = o := ⟨_, rfl⟩
  obtain ⟨ls, hls⟩ : ∃ o, iterC (d - 1) n L k2 = o := ⟨_, rfl⟩
  have hle := core_below hg (show d - 1 ≤ d by omega) hc1 k2
  have h0 : d = 0 → ∀ v, v < n → at_ (iterC d n L k1) v = 1 := fun e v hv => by
    subst e
    rw [core_all hg k1]
    simp [at_, List.getD, hv]
  rw [hst] at hc1 hk1 hle h0
  rw [hls] at hc2 hk2 hle
  have HC1 := Lib.hid hc1
  have HC2 := Lib.hid hc2
  have HLE := Lib.hid hle
  have H00 := Lib.hid h0
  have HOF := Lib.hid (fun (A' : Option Addr) (c' : Nat) (V : World) (h : Lies enc2 2 V A' L) => by
    have := ofr_ok A' c' n L 4 (d : Int) 0 0 V h (by rw [hg.ref]; exact chk_four hn1 hn2 (by omega))
    rw [core_job hg, hk1] at this
    exact this)
  have hmx : max ((d : Int) - 1) 0 = ((d - 1 : Nat) : Int) := by omega
  have HOF2 := Lib.hid (fun (A' : Option Addr) (c' : Nat) (V : World) (h : Lies enc2 2 V A' L) => by
    have := ofr_ok A' c' n L 4 ((d - 1 : Nat) : Int) 0 0 V h (by rw [hg.ref]; exact chk_four hn1 hn2 (by omega))
    rw [core_job hg, hk2, ← hmx] at this
    exact this)
  have HR := Lib.hid (fun V => round_at V)
  have HD11 := Lib.hid hd11
  have x4 : ¬ ((300 : Int) < (P.length : Int)) := by omega
  have x5 : ¬ ((P.length : Int) > 300) := by omega
  have x6 : decide ((P.length : Int) > 300) = false := decide_eq_false x5
  have hmk := make_i n (by omega)
  have HN12 := Lib.hid (And.intro hn1 hn2)
  clear hb8 hlen hL hbl hsz gW hn hLL hg hm HMA hN hs0 hn1 hn2 hd hd11 hk1 hk2 hc1 hc2 hst hls hle h0 hmx
  go_enter Try.func7, Try.ntmps7
  go_upto_region 10 with (first
    | (have _ := HU1; go_at_call 12; refine (HOF2.out _ _ _ HL3.out).mono ?_; rintro e w4 ⟨g2, rfl, hu, hg0, hb4⟩; have HU2 := Lib.hid hu; have HG2 := Lib.hid hg0; have HB4 := Lib.hid hb4; clear hu hg0 hb4)
    | (have _ := HL2; go_at_call 12; refine (HOF.out _ _ _ HL2.out).mono ?_; rintro e w3 ⟨g1, rfl, hu, hg0, hb3⟩; have HU1 := Lib.hid hu; have HG1 := Lib.hid hg0; have HB3 := Lib.hid hb3; have HL3 := Lib.hid (HL2.out.below hb3 (Nat.le_refl _)); clear hu hg0 hb3)
    | (go_at_call 16; refine HM.out.mono ?_; rintro e w2 ⟨A', c', rfl, hl2, hb2⟩; have HL2 := Lib.hid hl2; have HB2 := Lib.hid hb2; clear hl2 hb2))
  have HB24 := Lib.hid (show Below W.heap.size W w4 from (HB2.out.trans (HB3.out.mono HB2.out.size)).trans (HB4.out.mono (HB2.out.trans (HB3.out.mono HB2.out.size)).size))
  have HUW := Lib.hid (show UB w4 g1 st from HU1.out.fr (Fr.of_below HB4.out) (fun h => h))
  have HL4 := Lib.hid (HL3.out.below HB4.out (Nat.le_refl _))
  obtain ⟨w5, hw5, gw5, b5, s5⟩ := box_new w4 (.cells (iC (List.replicate n 0)) 3 (0, 0))
  rw [hw5]
  obtain ⟨gh, hgh⟩ : ∃ gl, w4.heap.size = gl := ⟨_, rfl⟩
  have HB45 := Lib.hid b5
  have HS1 := Lib.hid (show UB w5 g1 st from HUW.out.fr (Fr.of_below b5) (fun h => h))
  have HS2 := Lib.hid (show UB w5 g2 ls from HU2.out.fr (Fr.of_below b5) (fun h => h))
  have HSL := Lib.hid (HL4.out.below b5 (Nat.le_refl _))
  have HSB := Lib.hid (show Below W.heap.size W w5 from HB24.out.trans (b5.mono HB24.out.size))
  have HGH := Lib.hid (show W.heap.size ≤ gh from hgh ▸ HB24.out.size)
  have HN1 := Lib.hid (show g1 ≠ gh by have := HUW.out.lt; omega)
  have HN2 := Lib.hid (show g2 ≠ gh by have := HU2.out.lt; omega)
  have HLA := Lib.hid (show ∀ b o, A' = some ⟨b, o, none⟩ → 0 < L.length → ¬ b = gh from fun b o e h0 hb => by
    obtain ⟨x, hx⟩ : ∃ x, L[0]? = some x := ⟨_, List.getElem?_eq_getElem h0⟩
    obtain ⟨g', o', e', hlt, _⟩ := HL4.out 0 x hx
    rw [e] at e'
    cases e'
    omega)
  rw [hgh] at gw5 ⊢
  have HIB := Lib.hid (show IB w5 gh (List.replicate n 0) from gw5)
  clear hw5 gw5 b5 s5 hgh hmk
  go_wp2
  go_loopw [13] (fun i wi => ∃ k : Nat, i = .int .i64 (k : Int) ∧ k ≤ L.length ∧ UB wi g1 st ∧ UB wi g2 ls ∧ IB wi gh (haveTo st n (L.take k)) ∧ Lies enc2 2 wi A' L ∧ Below W.heap.size W wi) (fun i _ => L.length - (intOf i).toNat)
  case atStart => exact ⟨0, rfl, by omega, HS1.out, HS2.out, HIB.out, HSL.out, HSB.out⟩
  case round =>
    obtain ⟨k, rfl, hk, m1, m2, m3, m4, m5⟩ := hrel
    have M1 := Lib.hid m1
    have M2 := Lib.hid m2
    have M3 := Lib.hid m3
    have M4 := Lib.hid m4
    have M5 := Lib.hid m5
    by_cases hlt : k < L.length
    · obtain ⟨⟨e1, e2⟩, hx⟩ : ∃ x, L[k]? = some x := ⟨_, List.getElem?_eq_getElem hlt⟩
      obtain ⟨bx, ox, rfl, _, c0, c1⟩ := lies2 m4 hx
      have hin := HG.out.inn _ (List.mem_of_getElem? hx)
      dsimp only at hin
      obtain ⟨a, rfl⟩ : ∃ a : Nat, e1 = (a : Int) := ⟨e1.toNat, by omega⟩
      obtain ⟨z, rfl⟩ : ∃ a : Nat, e2 = (a : Int) := ⟨e2.toNat, by omega⟩
      have han : a < n := by omega
      have hzn : z < n := by omega
      have haz : a ≠ z := by omega
      have d0 := m1.cell (v := a) (by rw [HC1.out.len]; exact han)
      have d1 := m1.cell (v := z) (by rw [HC1.out.len]; exact hzn)
      have h0 := m3.cell (v := a) (by rw [haveTo_len]; exact han)
      have f0 := m3.free (v := a) (by rw [haveTo_len]; exact han)
      have hTK := haveTo_take (out := st) (n := n) hx
      unfold haveStep at hTK
      dsimp only at hTK
      rw [Int.toNat_natCast, Int.toNat_natCast] at hTK
      have hEk : Edges n (L.take k) := fun e he => HG.out.edges e (List.mem_of_mem_take he)
      have hla := haveTo_le (out := st) hEk a han
      have hlz := haveTo_le (out := st) hEk z hzn
      have hll : (L.take k).length ≤ 300 := by rw [List.length_take]; have := HG.out.len; omega
      obtain ⟨H, hH⟩ : ∃ H, haveTo st n (L.take k) = H := ⟨_, rfl⟩
      rw [hH] at h0 hTK hla hlz M3
      have HHL := Lib.hid (show H.length = n by rw [← hH]; exact haveTo_len _ _ _)
      obtain ⟨p, hp⟩ : ∃ p, at_ H a = p := ⟨_, rfl⟩
      obtain ⟨q, hq⟩ : ∃ p, at_ H z = p := ⟨_, rfl⟩
      have hz2 : at_ (H.set a (p + 1)) z = q := by rw [at_set (by rw [HHL.out]; exact han), if_neg (fun e => haz e.symm), hq]
      rw [hp] at h0 hTK hla
      rw [hz2] at hTK
      rw [hq] at hlz
      have HZ2 := Lib.hid hz2
      have i1 : (k : Int) < (L.length : Int) := by omega
      have i2 : (k : Int) < 1000 := by have := HG.out.len; omega
      have i3 : (a : Int) < (n : Int) := by omega
      have i4 : (z : Int) < (n : Int) := by omega
      have HKK := Lib.hid hlt
      have HAZ := Lib.hid (And.intro han hzn)
      have HNB := Lib.hid (HLA.out _ _ rfl (by omega))
      have hpb : p ≤ 600 := Nat.le_trans hla (Nat.mul_le_mul_left 2 hll)
      have hqb : q ≤ 600 := Nat.le_trans hlz (Nat.mul_le_mul_left 2 hll)
      have w1 := plus_one hpb
      have w2' := plus_one2 hpb
      have w3' := plus_one hqb
      have w4' := plus_one2 hqb
      have bita := HC1.out.bits a (by rw [HC1.out.len]; exact han)
      have bitz := HC1.out.bits z (by rw [HC1.out.len]; exact hzn)
      clear hx hin hlt hk m1 m2 m3 m4 m5 hH hp hq hz2 hEk hla hlz hll han hzn haz hpb hqb
      by_cases ha1 : at_ st a = 1
      · by_cases hz1 : at_ st z = 1
        · rw [if_pos ⟨ha1, hz1⟩] at hTK
          have HTK := Lib.hid hTK
          rw [ha1] at d0
          rw [hz1] at d1
          have e1' : ((1 : Nat) : Int) = 1 := rfl
          rw [e1'] at d0 d1
          clear ha1 hz1 hTK e1' bita bitz
          go_upto_region 15 with (fail)
          obtain ⟨w6, hw6⟩ : ∃ V, wr.setCell ⟨gh, a, none⟩ (.int .i64 ((p + 1 : Nat) : Int)) = V := ⟨_, rfl⟩
          have hf6 : Fr (fun b => b = gh) wr w6 := hw6 ▸ Fr.setCell wr ⟨gh, a, none⟩ _
          have J3 := Lib.hid (show IB w6 gh (H.set a (p + 1)) by rw [← hw6]; exact M3.out.set a (p + 1))
          have J1 := Lib.hid (M1.out.fr hf6 (fun e => HN1.out e))
          have J2 := Lib.hid (M2.out.fr hf6 (fun e => HN2.out e))
          have J4 := Lib.hid (M4.out.fr hf6 (fun b o e => by cases e; exact HNB.out))
          have J5 := Lib.hid (show Below W.heap.size W w6 from M5.out.trans (hf6.below M5.out.size (fun i e => by have e' : i = gh := e; rw [e']; exact HGH.out)))
          have hc1 := J3.out.cell (v := z) (by rw [List.length_set, HHL.out]; exact HAZ.out.2)
          rw [HZ2.out] at hc1
          have hf1 := J3.out.free (v := z) (by rw [List.length_set, HHL.out]; exact HAZ.out.2)
          have cc1 := hf6.cell c1 (World.block_lt_of_cell? _ _ c1) (fun e => HNB.out e)
          have hpe : ((p + 1 : Nat) : Int) = (p : Int) + 1 := by omega
          rw [hpe] at hw6
          rw [hw6]
          clear hw6 hf6 hpe c0 c1 d0 d1 h0 f0
          go_wp2
          go_roundw
          case rel =>
            have hf := Fr.setCell w6 ⟨gh, z, none⟩ (.int .i64 ((q + 1 : Nat) : Int))
            have hres : UB (w6.setCell ⟨gh, z, none⟩ (.int .i64 ((q + 1 : Nat) : Int))) g1 st ∧ UB (w6.setCell ⟨gh, z, none⟩ (.int .i64 ((q + 1 : Nat) : Int))) g2 ls ∧ IB (w6.setCell ⟨gh, z, none⟩ (.int .i64 ((q + 1 : Nat) : Int))) gh (haveTo st n (L.take (k + 1))) ∧ Lies enc2 2 (w6.setCell ⟨gh, z, none⟩ (.int .i64 ((q + 1 : Nat) : Int))) (some ⟨bx, ox, none⟩) L ∧ Below W.heap.size W (w6.setCell ⟨gh, z, none⟩ (.int .i64 ((q + 1 : Nat) : Int))) :=
              ⟨J1.out.fr hf (fun e => HN1.out e), J2.out.fr hf (fun e => HN2.out e), by rw [HTK.out]; exact J3.out.set z (q + 1), J4.out.fr hf (fun b o e => by cases e; exact HNB.out), J5.out.trans (hf.below J5.out.size (fun i e => by have e' : i = gh := e; rw [e']; exact HGH.out))⟩
            exact ⟨k + 1, by go_num, HKK.out, hres⟩
          case measure => have := HKK.out; simp [intOf]; omega
        · have hz0 : at_ st z = 0 := by omega
          rw [if_neg (fun e => hz1 e.2)] at hTK
          have HTK := Lib.hid hTK
          rw [ha1] at d0
          rw [hz0] at d1
          have e1' : ((1 : Nat) : Int) = 1 := rfl
          have e0' : ((0 : Nat) : Int) = 0 := rfl
          rw [e1'] at d0
          rw [e0'] at d1
          clear ha1 hz1 hz0 hTK e1' e0' bita bitz
          go_wp2
          go_roundw
          case rel => exact ⟨k + 1, by go_num, HKK.out, M1.out, M2.out, HTK.out ▸ M3.out, M4.out, M5.out⟩
          case measure => have := HKK.out; simp [intOf]; omega
      · have ha0 : at_ st a = 0 := by omega
        rw [if_neg (fun e => ha1 e.1)] at hTK
        have HTK := Lib.hid hTK
        rw [ha0] at d0
        have e0' : ((0 : Nat) : Int) = 0 := rfl
        rw [e0'] at d0
        clear ha1 ha0 hTK e0' bita bitz
        go_wp2
        go_roundw
        case rel => exact ⟨k + 1, by go_num, HKK.out, M1.out, M2.out, HTK.out ▸ M3.out, M4.out, M5.out⟩
        case measure => have := HKK.out; simp [intOf]; omega
    · obtain rfl : k = L.length := by omega
      rw [List.take_length] at M3
      clear hk hlt m1 m2 m3 m4 m5
      go_wp2
      go_loopw [14] (fun i wi => ∃ (v m : Nat), i = .int .i64 (v : Int) ∧ v ≤ n ∧ wi = wr.drewN m) (fun i _ => n - (intOf i).toNat)
      case atStart => exact ⟨0, 0, rfl, by omega, rfl⟩
      case round =>
        obtain ⟨v, m, rfl, hv, rfl⟩ := hrel
        by_cases hvn : v < n
        · have d0 := M1.out.cell (v := v) (by rw [HC1.out.len]; exact hvn)
          have d1 := M2.out.cell (v := v) (by rw [HC2.out.len]; exact hvn)
          have d2 := M3.out.cell (v := v) (by rw [haveTo_len]; exact hvn)
          have hle := HLE.out v hvn
          have hb1 := HC1.out.bits v (by rw [HC1.out.len]; exact hvn)
          have hdeg := HC1.out.deg v hvn
          have h00 := fun e => H00.out e v hvn
          have hhv := fun e => have_deg (out := st) HG.out.edges HC1.out.bits HC1.out.len hvn e
          obtain ⟨s, hs⟩ : ∃ x, at_ st v = x := ⟨_, rfl⟩
          obtain ⟨l, hl⟩ : ∃ x, at_ ls v = x := ⟨_, rfl⟩
          obtain ⟨h, hh⟩ : ∃ x, at_ (haveTo st n L) v = x := ⟨_, rfl⟩
          rw [hs] at d0 hle hb1 hdeg h00 hhv
          rw [hl] at d1 hle
          rw [hh] at d2 hhv
          have hge : s = 1 → d ≤ h := fun e => by rw [hhv e]; exact hdeg e
          have i1 : (v : Int) < (n : Int) := by omega
          have i2 : (v : Int) < 1000 := by have := HN12.out.2; omega
          have HV := Lib.hid hvn
          have t1 : ¬ ((1 : Int) < (s : Int)) := by omega
          have t2 : decide ((1 : Int) < (s : Int)) = false := decide_eq_false t1
          have t3 : ¬ ((l : Int) < (s : Int)) := by omega
          have t4 : decide ((l : Int) < (s : Int)) = false := decide_eq_false t3
          have t5 : ¬ (l < s) := by omega
          have t6 : decide (l < s) = false := decide_eq_false t5
          have t7 : ¬ (1 < s) := by omega
          have t8 : decide (1 < s) = false := decide_eq_false t7
          by_cases hs1 : s = 1
          · have u1 : ((s : Int) == 1) = true := by rw [hs1]; rfl
            have u2 : ((s : Int) != 1) = false := by rw [hs1]; rfl
            have hdh := hge hs1
            have u3 : ¬ ((h : Int) < (d : Int)) := by omega
            have u4 : decide ((h : Int) < (d : Int)) = false := decide_eq_false u3
            have u5 : ¬ (h < d) := by omega
            have u6 : decide (h < d) = false := decide_eq_false u5
            by_cases hd0 : d = 0
            · have y1 : ((d : Int) == 0) = true := by rw [hd0]; rfl
              clear hs hl hh hge hle hb1 hdeg h00 hhv hv hvn hs1 hdh hd0
              go_wp2
              go_quiet (fail)
              go_wp2
              go_roundw
              case rel => exact ⟨v + 1, _, by go_num, HV.out, rfl⟩
              case measure => have := HV.out; simp [intOf]; omega
            · have y0 : (d : Int) ≠ 0 := by omega
              have y1 : ((d : Int) == 0) = false := by simpa using y0
              clear hs hl hh hge hle hb1 hdeg h00 hhv hv hvn hs1 hdh hd0 y0
              go_wp2
              go_quiet (fail)
              go_wp2
              go_roundw
              case rel => exact ⟨v + 1, _, by go_num, HV.out, rfl⟩
              case measure => have := HV.out; simp [intOf]; omega
          · have u0 : (s : Int) ≠ 1 := by omega
            have u1 : ((s : Int) == 1) = false := by simpa using u0
            have y0 : (d : Int) ≠ 0 := fun e => hs1 (h00 (by omega))
            have y1 : ((d : Int) == 0) = false := by simpa using y0
            clear hs hl hh hge hle hb1 hdeg h00 hhv hv hvn hs1 u0 y0
            go_wp2
            go_quiet (fail)
            go_wp2
            go_roundw
            case rel => exact ⟨v + 1, _, by go_num, HV.out, rfl⟩
            case measure => have := HV.out; simp [intOf]; omega
        · obtain rfl : v = n := by omega
          have HR2 := Lib.hid (HR.out (wr.drewN m))
          clear hv hvn
          go_wp2_with (go_at_call 11; refine HR2.out.mono ?_; rintro e w9 ⟨rfl, hb9⟩; have HB9 := Lib.hid hb9; clear hb9)
          go_ret
          exact ⟨rfl, HB.out.trans ((M5.out.trans (((below_drewNg wr m).trans HB9.out).mono M5.out.size)).mono HB.out.size)⟩
set_option maxRecDepth 100000 in
set_option maxHeartbeats 4000000 in
theorem cor_big (A : Option Addr) (c : Nat) (N s0 : Int) (P : List Ed) (w : World) (hlen : 300 < P.length) :
    Calls Try.prog 7 #[.agg #[.int .u8 N, .slice A P.length c], .int .u8 s0] w fun e w' => e = .returned (.bool true) ∧ Below w.heap.size w w' := by
  obtain ⟨W, hW, gW, hbl, hsz⟩ := box_new w (.cells #[.int .u8 N, .slice A P.length c] 41 (0, 0))
  have b1 : W.cell? ⟨w.heap.size, 1, none⟩ = some (.slice A P.length c) := cell_of_heap (i := 1) gW rfl
  have HB := Lib.hid hbl
  have HR := Lib.hid (round_at W)
  have x4 : (300 : Int) < (P.length : Int) := by omega
  have x5 : (P.length : Int) > 300 := x4
  have x6 : decide ((P.length : Int) > 300) = true := decide_eq_true x5
  clear gW hbl hsz hlen
  go_enter Try.func7, Try.ntmps7
  go_wp2_with (go_at_call 11; refine HR.out.mono ?_; rintro e w9 ⟨rfl, hb9⟩; have HB9 := Lib.hid hb9; clear hb9)
  go_ret
  exact ⟨rfl, HB.out.trans (HB9.out.mono HB.out.size)⟩
theorem cor_all (A : Option Addr) (len c : Nat) (N s0 : Int) (P : List Ed) (w : World) (hP : P.length = len) (hN : 0 ≤ N ∧ N ≤ 255) (hs0 : 0 ≤ s0 ∧ s0 ≤ 255) (hL : Lies enc8 2 w A P) (hb8 : ∀ p ∈ P, (0 ≤ p.1 ∧ p.1 ≤ 255) ∧ 0 ≤ p.2 ∧ p.2 ≤ 255) :
    Calls Try.prog 7 #[.agg #[.int .u8 N, .slice A len c], .int .u8 s0] w fun e w' => e = .returned (.bool true) ∧ Below w.heap.size w w' := by
  subst hP
  by_cases h : P.length ≤ 300
  · exact corlaw_at A c N s0 P w hN hs0 hL hb8 h
  · exact cor_big A c N s0 P w (by omega)
end Go.Proofs.Ytpmgkmodpneiiaa.E
