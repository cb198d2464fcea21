/- packed.Pack: a table's bytes. Conditions: those that each theorem names. -/
import Derived.Lib.ItoaNum
import Derived.Test.YtdlmkdldmiiaiaaPac
namespace Go.Proofs.Ytdlmkdldmiiaiaa.E
open Go.RowKit Go.Sort Go.Shelf
open Go.Proofs.Ytdlmkdldmiiaiaa.Ma Go.Proofs.Ytdlmkdldmiiaiaa.By
set_option linter.unusedVariables false
set_option linter.unusedSimpArgs false
def packStep (W : Nat) (st : Nat × Int × List UInt8) (n : Int) : Nat × Int × List UInt8 := flushN 8 10 (st.1 + n.toNat * 2 ^ st.2.1.toNat) (st.2.1 + W) st.2.2
def packTo (W : Nat) (L : List Int) : Nat × Int × List UInt8 := L.foldl (packStep W) (0, 0, [])
def packC (L : List Int) : List UInt8 := (flushN 1 10 (packTo (maxW L).toNat L).1 (packTo (maxW L).toNat L).2.1 (packTo (maxW L).toNat L).2.2).2.2
theorem packTo_take (W : Nat) {L : List Int} {k : Nat} {x : Int} (h : L[k]? = some x) : packTo W (L.take (k + 1)) = packStep W (packTo W (L.take k)) x := by
  unfold packTo
  rw [List.take_add_one, h, List.foldl_append]
  rfl
theorem flushN_in : ∀ (f h : Nat) (m : Int) (o : List UInt8), 0 ≤ m → m < 8 * (f : Int) → h < 2 ^ m.toNat → 0 ≤ (flushN 8 f h m o).2.1 ∧ (flushN 8 f h m o).2.1 < 8 ∧ (flushN 8 f h m o).1 < 2 ^ (flushN 8 f h m o).2.1.toNat ∧ (flushN 8 f h m o).2.2.length ≤ o.length + f := by
  intro f
  induction f with
  | zero => intro h m o h0 h1; omega
  | succ f ih =>
    intro h m o h0 h1 h2
    unfold flushN
    split
    · rename_i hc
      have := ih (h / 256) (m - 8) (o ++ [UInt8.ofNat h]) (by omega) (by omega) (by
        rw [Nat.div_lt_iff_lt_mul (by omega)]
        have e : 2 ^ m.toNat = 2 ^ (m - 8).toNat * 256 := by
          rw [show m.toNat = (m - 8).toNat + 8 by omega, Nat.pow_add]
        rw [← e]
        exact h2)
      rw [List.length_append] at this
      simp only [List.length_cons, List.length_nil] at this
      omega
    · rename_i hc
      have hc' : ¬ ((8 : Int) ≤ m ∧ 0 < m) := hc
      exact ⟨h0, by show m < 8; omega, h2, by simp⟩
theorem widthC_lt {x : Int} (h0 : 0 ≤ x) (h1 : x < 4294967296) : x.toNat < 2 ^ (widthC x).toNat ∧ widthC x ≤ 32 := by
  unfold widthC
  rw [if_neg (by omega)]
  by_cases hz : x.toNat = 0
  · rw [hz]
    have : Lib.bitLen 0 = 0 := by decide
    rw [this]
    decide
  · have hb := Lib.bitLenAux_bounds 64 x.toNat (by omega) hz
    have h32 : Lib.bitLen x.toNat ≤ 32 := by
      apply Classical.byContradiction
      intro h
      have h2 : 2 ^ 32 ≤ 2 ^ (Lib.bitLenAux 64 x.toNat - 1) := Nat.pow_le_pow_right (by decide) (by unfold Lib.bitLen at h; omega)
      omega
    rw [Int.min_eq_left (by omega), Int.toNat_natCast]
    exact ⟨hb.2.2, by omega⟩
theorem maxW_ge : ∀ (L : List Int) {x : Int}, x ∈ L → widthC x ≤ maxW L := by
  have : ∀ (L : List Int) (m : Int), m ≤ L.foldl (fun m n => max m (widthC n)) m ∧ ∀ x ∈ L, widthC x ≤ L.foldl (fun m n => max m (widthC n)) m := by
    intro L
    induction L with
    | nil => intro m; exact ⟨Int.le_refl _, fun x hx => by cases hx⟩
    | cons y r ih =>
      intro m
      rw [List.foldl_cons]
      obtain ⟨h1, h2⟩ := ih (max m (widthC y))
      refine ⟨by omega, fun x hx => ?_⟩
      rcases List.mem_cons.1 hx with rfl | hx
      · omega
      · exact h2 x hx
  exact fun L x hx => (this L 0).2 x hx
theorem maxW_32 : ∀ (L : List Int), (∀ x ∈ L, 0 ≤ x ∧ x < 4294967296) → maxW L ≤ 32 := by
  have : ∀ (L : List Int) (m : Int), m ≤ 32 → (∀ x ∈ L, 0 ≤ x ∧ x < 4294967296) → L.foldl (fun m n => max m (widthC n)) m ≤ 32 := by
    intro L
    induction L with
    | nil => intro m h _; exact h
    | cons y r ih =>
      intro m h hx
      rw [List.foldl_cons]
      have := (widthC_lt (hx y List.mem_cons_self).1 (hx y List.mem_cons_self).2).2
      exact ih _ (by omega) (fun x h => hx x (List.mem_cons_of_mem _ h))
  exact fun L => this L 0 (by omega)
theorem lt_maxW {L : List Int} (hx : ∀ x ∈ L, 0 ≤ x ∧ x < 4294967296) {x : Int} (h : x ∈ L) : x.toNat < 2 ^ (maxW L).toNat := by
  obtain ⟨h0, h1⟩ := hx x h
  have := maxW_ge L h
  exact Nat.lt_of_lt_of_le (widthC_lt h0 h1).1 (Nat.pow_le_pow_right (by decide) (by omega))
theorem add_bits {h n m W : Nat} (hh : h < 2 ^ m) (hn : n < 2 ^ W) : h + n * 2 ^ m < 2 ^ (m + W) := by
  rw [Nat.pow_add, Nat.mul_comm (2 ^ m)]
  have : n * 2 ^ m + 2 ^ m ≤ 2 ^ W * 2 ^ m := by rw [← Nat.succ_mul]; exact Nat.mul_le_mul_right _ hn
  omega
theorem lay3 (h n m : Nat) (hm : m ≤ 31) (hh : h < 2 ^ m) (hn : n < 4294967296) :
    bits .or .u64 (h : Int) (IntKind.u64.wrap (IntKind.u64.wrap (n : Int) * 2 ^ m)) = ((h + n * 2 ^ m : Nat) : Int) := by
  have hb : n * 2 ^ m < 18446744073709551616 := by
    have h1 : 2 ^ m ≤ 2 ^ 31 := Nat.pow_le_pow_right (by decide) hm
    have h2 : n * 2 ^ m ≤ 4294967295 * 2 ^ 31 := Nat.mul_le_mul (by omega) h1
    omega
  have hh2 : h < 18446744073709551616 := by
    have h1 : 2 ^ m ≤ 2 ^ 31 := Nat.pow_le_pow_right (by decide) hm
    omega
  have e1 : IntKind.u64.wrap (IntKind.u64.wrap (n : Int) * 2 ^ m) = ((n * 2 ^ m : Nat) : Int) := by
    rw [By.wrap_u64, By.wrap_u64, show ((n : Int) % 18446744073709551616) = (n : Int) by omega]
    have : ((n : Int) * 2 ^ m) = ((n * 2 ^ m : Nat) : Int) := by push_cast; rfl
    rw [this]
    omega
  rw [e1, (bits_nat .u64 64 (by decide) wraps_u64 h (n * 2 ^ m) (by omega) (by omega)).2, Nat.or_comm, Nat.mul_comm n, ← Nat.two_pow_add_eq_or_of_lt hh, Nat.add_comm]
theorem packTo_in (W : Nat) (hW : W ≤ 32) : ∀ (L : List Int) (st : Nat × Int × List UInt8), (0 ≤ st.2.1 ∧ st.2.1 < 8 ∧ st.1 < 2 ^ st.2.1.toNat) → (∀ x ∈ L, x.toNat < 2 ^ W) →
    0 ≤ (L.foldl (packStep W) st).2.1 ∧ (L.foldl (packStep W) st).2.1 < 8 ∧ (L.foldl (packStep W) st).1 < 2 ^ (L.foldl (packStep W) st).2.1.toNat ∧ (L.foldl (packStep W) st).2.2.length ≤ st.2.2.length + 10 * L.length := by
  intro L
  induction L with
  | nil => intro st h _; exact ⟨h.1, h.2.1, h.2.2, by simp⟩
  | cons x r ih =>
    intro st h hx
    rw [List.foldl_cons]
    have hb := add_bits h.2.2 (hx x List.mem_cons_self)
    have h1 := flushN_in 10 (st.1 + x.toNat * 2 ^ st.2.1.toNat) (st.2.1 + W) st.2.2 (by omega) (by omega) (by rw [show (st.2.1 + (W : Int)).toNat = st.2.1.toNat + W by omega]; exact hb)
    have h2 := ih (packStep W st x) ⟨h1.1, h1.2.1, h1.2.2.1⟩ (fun y hy => hx y (List.mem_cons_of_mem _ hy))
    refine ⟨h2.1, h2.2.1, h2.2.2.1, ?_⟩
    have h3 := h1.2.2.2
    have h4 := h2.2.2.2
    unfold packStep at h4
    simp only [List.length_cons]
    unfold packStep
    omega
theorem three_new (w : World) : ∃ W, (((w.alloc (.cells #[.slice none 0 0] 52)).alloc (.cells #[.int .u64 0] 113)).alloc (.cells #[.int .i64 0] 3)) = W ∧ PS w.heap.size W 0 0 [] ∧ Below w.heap.size w W := by
  obtain ⟨W1, hW1, g1, b1, s1⟩ := box_new w (.cells #[.slice none 0 0] 52 (0, 0))
  obtain ⟨W2, hW2, g2, b2, s2⟩ := box_new W1 (.cells #[.int .u64 0] 113 (0, 0))
  obtain ⟨W3, hW3, g3, b3, s3⟩ := box_new W2 (.cells #[.int .i64 0] 3 (0, 0))
  refine ⟨_, rfl, ?_⟩
  have e1 : ((w.alloc (.cells #[.slice none 0 0] 52)).alloc (.cells #[.int .u64 0] 113)).alloc (.cells #[.int .i64 0] 3) = W3 := by rw [← hW3, ← hW2, ← hW1]
  rw [e1]
  have h1 : W3.heap[w.heap.size]? = some (.cells #[.slice none 0 0] 52 (0, 0)) := (Fr.of_below b3).keep ((Fr.of_below b2).keep g1 (fun e => e)) (fun e => e)
  have h2 : W3.heap[w.heap.size + 1]? = some (.cells #[.int .u64 ((0 : Nat) : Int)] 113 (0, 0)) := by
    rw [← s1]
    exact (Fr.of_below b3).keep g2 (fun e => e)
  have h3 : W3.heap[w.heap.size + 2]? = some (.cells #[.int .i64 0] 3 (0, 0)) := by
    rw [show w.heap.size + 2 = W2.heap.size by omega]
    exact g3
  exact ⟨⟨h3, h2, _, h1, World.ownsRow_nil _ _ _ _⟩, b1.trans ((b2.trans (b3.mono b2.size)).mono b1.size)⟩
theorem region_tail {P : Program} {id : Nat} {Q : Exit → Act → World → Prop} {a : Act} {w : World} {l : List Oper} (n : Nat) (hm : P.follows .mixedOrders = true) (hB : Region.lexTailB .any l.toArray n = true)
    (h : ∀ wd : World, wd = w.drew → wpStill P l.toArray wd (fun a' => wpList P l.toArray Q (l.drop n) a' wd) (l.take n) a) : (Code.region id l.toArray true).wp P Q a w :=
  wp_region_still_tail n hm hB (h w.drew rfl)
set_option maxRecDepth 100000 in
set_option maxHeartbeats 4000000 in
theorem pack_at (A : Option Addr) (c : Nat) (L : List Int) (w : World) (hL : Lies encI 1 w A L) (hl : L.length ≤ 1000) (hx : ∀ x ∈ L, 0 ≤ x ∧ x < 4294967296) :
    Calls Try.prog 38 #[.slice A L.length c, .int .i64 (maxW L)] w fun e w' => e = .returned (.tuple #[.string ⟨(packC L).toArray⟩, .int .i64 0]) ∧ Below w.heap.size w w' := by
  have HW := Lib.hid (maxw_at A c L w hL (by omega) (fun x h => by have := hx x h; omega))
  obtain ⟨W, hW⟩ : ∃ W : Nat, maxW L = (W : Int) := ⟨(maxW L).toNat, by have := maxW_in L; omega⟩
  have h32 := maxW_32 L hx
  have HLT := Lib.hid (show ∀ x ∈ L, x.toNat < 2 ^ W from fun x h => by have := lt_maxW hx h; rw [hW, Int.toNat_natCast] at this; exact this)
  have HX := Lib.hid hx
  obtain ⟨F, hF⟩ : ∃ F, packC L = F := ⟨_, rfl⟩
  rw [hF]
  have HF := Lib.hid (show (flushN 1 10 (packTo W L).1 (packTo W L).2.1 (packTo W L).2.2).2.2 = F by rw [← hF]; unfold packC; rw [hW, Int.toNat_natCast])
  rw [hW] at h32 HW ⊢
  have HL := Lib.hid hL
  have HN := Lib.hid hl
  obtain ⟨V, hV, hp, hbV⟩ := three_new w
  have HV := Lib.hid hV
  have HP := Lib.hid hp
  have HBV := Lib.hid hbV
  have hmf : ∀ (fn : Fn) (first cap : Array Value) (w : World), (Instr.makeFunc fn first cap).run Try.prog w = .ok (.func fn first cap) w := fun _ _ _ _ => rfl
  have t1 : ¬ ((W : Int) < 0) := by omega
  have t2 : ¬ ((32 : Int) < (W : Int)) := by omega
  have t3 : decide ((W : Int) > 32) = false := decide_eq_false t2
  have t4 : ¬ ((65536 : Int) < (L.length : Int)) := by omega
  have t5 : decide ((L.length : Int) > 65536) = false := decide_eq_false t4
  have t6 : (W : Int) < 33 := by omega
  have H32 := Lib.hid h32
  clear hL hl hx hF hV hp hbV hW h32
  go_enter Try.func38, Try.ntmps38
  go_upto_region 7 with (go_at_call 37; refine HW.out.mono ?_; rintro e w2 ⟨rfl, rfl⟩)
  rw [HV.out]
  obtain ⟨B, hB⟩ : ∃ B, w2.heap.size = B := ⟨_, rfl⟩
  have HB2 := Lib.hid hB
  rw [hB] at HP HBV
  rw [hB, show B + 1 + 1 = B + 2 from rfl]
  have HP0 := Lib.hid (show ∃ k h m out, (h, m, out) = packTo W (L.take k) ∧ PS B V h m out ∧ k = 0 from ⟨0, 0, 0, [], rfl, HP.out, rfl⟩)
  clear hB
  go_wp2
  go_loopw [32] (fun i wi => ∃ (k h m : Nat) (out : List UInt8), i = .int .i64 (k : Int) ∧ k ≤ L.length ∧ (h, (m : Int), out) = packTo W (L.take k) ∧ m < 8 ∧ h < 2 ^ m ∧ out.length ≤ 10 * k ∧ PS B wi h m out ∧ Below B w2 wi) (fun i _ => L.length - (intOf i).toNat)
  case atStart => exact ⟨0, 0, 0, [], rfl, by omega, rfl, by omega, by omega, by simp, HP.out, HBV.out⟩
  case round =>
    obtain ⟨k, h, m, out, rfl, hk, hst, hm, hh, ho, hp, hb⟩ := hrel
    have HPP := Lib.hid hp
    have HBB := Lib.hid hb
    by_cases hlt : k < L.length
    · obtain ⟨x, hx⟩ : ∃ p, L[k]? = some p := ⟨L[k], List.getElem?_eq_getElem _⟩
      have hmem := List.mem_of_getElem? hx
      obtain ⟨xn, rfl⟩ : ∃ n : Nat, x = (n : Int) := ⟨x.toNat, by have := HX.out x hmem; omega⟩
      have hx32 : xn < 4294967296 := by have := HX.out _ hmem; omega
      have hxW : xn < 2 ^ W := by have := HLT.out _ hmem; rwa [Int.toNat_natCast] at this
      obtain ⟨b, o, rfl, hbl, hc⟩ := lies1 (HL.out.below (B := w2.heap.size) (by rw [HB2.out]; exact hb) (Nat.le_refl _)) hx
      have HTK := Lib.hid (packTo_take W hx)
      have i1 : (k : Int) < (L.length : Int) := by omega
      have i2 : (k : Int) < 1000 := by have := HN.out; omega
      obtain ⟨c1, f1⟩ := one_cell hp.hh
      obtain ⟨c2, f2⟩ := one_cell hp.hm
      have HOR := Lib.hid (show bits .or .u64 (h : Int) (IntKind.u64.wrap (IntKind.u64.wrap (xn : Int) * 2 ^ min m 64)) = ((h + xn * 2 ^ m : Nat) : Int) by rw [Nat.min_eq_left (by omega)]; exact lay3 h xn m (by omega) hh hx32)
      obtain ⟨h2, hh2⟩ : ∃ h2, h + xn * 2 ^ m = h2 := ⟨_, rfl⟩
      rw [hh2] at HOR
      have hab := add_bits (W := W) hh hxW
      rw [hh2] at hab
      have HFI := Lib.hid (flushN_in 10 h2 ((m : Int) + (W : Int)) out (by omega) (by have := H32.out; omega) (by rw [show ((m : Int) + (W : Int)).toNat = m + W by omega]; exact hab))
      have HEQ := Lib.hid (show packTo W (L.take (k + 1)) = flushN 8 10 h2 ((m : Int) + (W : Int)) out by rw [HTK.out, ← hst]; unfold packStep; dsimp only; rw [Int.toNat_natCast, Int.toNat_natCast, hh2])
      have HK := Lib.hid hlt
      have HST := Lib.hid hst
      have HMO := Lib.hid (And.intro hm ho)
      clear hx hmem hx32 hxW hbl hk hst hm hh ho hp hb hlt hh2 hab
      go_upto_region 11 with (fail)
      refine region_tail 6 (by kernel_rfl) (by kernel_rfl) fun wd hwd => ?_
      simp only [List.take_succ_cons, List.take_zero, List.drop_succ_cons, List.drop_zero]
      have hdp : PS B wd h m out := by rw [hwd]; exact HPP.out.to ((Below.refl _ _).drew)
      have hdb : Below B w2 wd := by rw [hwd]; exact HBB.out.drew
      have HPD := Lib.hid hdp
      have HBD := Lib.hid hdb
      clear c1 f1 c2 f2 hwd
      obtain ⟨c1, f1⟩ := one_cell hdp.hh
      obtain ⟨c2, f2⟩ := one_cell hdp.hm
      clear hdp hdb
      repeat still_step
      refine wpStill_nil ?_
      rw [HOR.out]
      go_upto_region 12 with (fail)
      obtain ⟨w4, hw4⟩ : ∃ V, wd.setCell ⟨B + 1, 0, none⟩ (.int .u64 (h2 : Int)) = V := ⟨_, rfl⟩
      have S1 := Lib.hid (HPD.out.setH h2)
      have S2 := Lib.hid ((Fr.setCell wd ⟨B + 1, 0, none⟩ (.int .u64 (h2 : Int))).below (B := B) (by have := HPD.out.lt; omega) (fun k e => by have e' : k = B + 1 := e; omega))
      rw [hw4] at S1 S2 ⊢
      clear hw4 c1 f1 c2 f2
      obtain ⟨c2, f2⟩ := one_cell S1.out.hm
      have b3 : (m : Int) < 8 := by have := HMO.out.1; omega
      go_upto_region 13 with (fail)
      obtain ⟨w5, hw5⟩ : ∃ V, w4.setCell ⟨B + 2, 0, none⟩ (.int .i64 ((m : Int) + (W : Int))) = V := ⟨_, rfl⟩
      have T1 := Lib.hid (S1.out.setM ((m : Int) + (W : Int)))
      have T2 := Lib.hid ((Fr.setCell w4 ⟨B + 2, 0, none⟩ (.int .i64 ((m : Int) + (W : Int)))).below (B := B) (by have := S1.out.lt; omega) (fun k e => by have e' : k = B + 2 := e; omega))
      rw [hw5] at T1 T2 ⊢
      clear hw5 c2 f2
      have HFL := Lib.hid (flush_at B 8 h2 ((m : Int) + (W : Int)) out 10 w5 T1.out (by have := H32.out; omega) (by have := H32.out; omega) (by omega) (by have := HMO.out; omega) (by omega))
      go_upto_region 14 with (go_at_call 69; refine HFL.out.mono ?_; rintro e w6 ⟨⟨v, rfl⟩, hp6, hb6⟩; have HP6 := Lib.hid hp6; have HB6 := Lib.hid hb6; clear hp6 hb6)
      have HREL := Lib.hid (show ∃ (h' m' : Nat) (out' : List UInt8), (h', (m' : Int), out') = packTo W (L.take (k + 1)) ∧ m' < 8 ∧ h' < 2 ^ m' ∧ out'.length ≤ 10 * (k + 1) ∧ PS B w6 h' m' out' ∧ Below B w2 w6 by
        rw [HEQ.out]
        obtain ⟨q1, q2, q3, q4⟩ := HFI.out
        have hp6 := HP6.out
        generalize flushN 8 10 h2 ((m : Int) + (W : Int)) out = T at q1 q2 q3 q4 hp6 ⊢
        obtain ⟨fh, fm, fo⟩ := T
        dsimp only at q1 q2 q3 q4 hp6
        obtain ⟨m', rfl⟩ : ∃ m' : Nat, fm = (m' : Int) := ⟨fm.toNat, by omega⟩
        refine ⟨fh, m', fo, rfl, by omega, by simpa using q3, by have := HMO.out.2; omega, hp6, ?_⟩
        exact HBD.out.trans (S2.out.trans (T2.out.trans HB6.out)))
      go_wp2
      go_roundw
      case rel =>
        obtain ⟨h', m', out', e1, e2, e3, e4, e5, e6⟩ := HREL.out
        exact ⟨k + 1, h', m', out', by go_num, HK.out, e1, e2, e3, e4, e5, e6⟩
      case measure => have := HK.out; simp [intOf]; omega
    · obtain rfl : k = L.length := by omega
      rw [List.take_length] at hst
      have hF := HF.out
      rw [← hst] at hF
      dsimp only at hF
      have HFF := Lib.hid hF
      have HFL := Lib.hid (flush_at B 1 h (m : Int) out 10 wr hp (by omega) (by omega) (by omega) (by have := HN.out; omega) (by omega))
      clear hk hlt hst hm hh ho hp hb hF
      go_upto_region 16 with (go_at_call 69; refine HFL.out.mono ?_; rintro e w6 ⟨⟨v, rfl⟩, hp6, hb6⟩; have HP6 := Lib.hid hp6; have HB6 := Lib.hid hb6; clear hp6 hb6)
      obtain ⟨z, hz, hown⟩ := HP6.out.ho
      rw [HFF.out] at hown
      obtain ⟨A9, c9, rfl, _, _⟩ := row_open encY_len hown
      obtain ⟨cz, fz⟩ := one_cell hz
      have htx := text_row rfl hown
      have HBE := Lib.hid (show Below B w2 w6 from HBB.out.trans HB6.out)
      clear hz hown
      go_wp2
      exact bodyPost_ret (v := .tuple #[.string ⟨F.toArray⟩, .int .i64 0]) (by simp [results, Try.results38, go_sem]) rfl ⟨rfl, by rw [HB2.out]; exact HBE.out⟩
end Go.Proofs.Ytdlmkdldmiiaiaa.E
