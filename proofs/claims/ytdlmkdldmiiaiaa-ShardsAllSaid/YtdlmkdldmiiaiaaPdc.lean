/- Plain: what is encoded is decoded; bytes turned over, or cut off, are no shard's. No condition but those that each theorem names. -/
import Derived.Test.YtdlmkdldmiiaiaaPre
namespace Go.Proofs.Ytdlmkdldmiiaiaa.E
open Go.RowKit Go.Sort Go.Shelf
open Go.Proofs.Ytdlmkdldmiiaiaa.Ma Go.Proofs.Ytdlmkdldmiiaiaa.By Go.Proofs.Ytdlmkdldmiiaiaa.Enc
set_option linter.unusedVariables false
set_option linter.unusedSimpArgs false
theorem encS_fits {lo hi : Int} {O : List (List Int)} (f : Fits lo hi O) : encS lo hi O = (Crc.sealL (bodyL lo hi O), 0) := by
  unfold encS
  rw [if_pos (checkC_zero f)]
theorem skipC_ok {s : ByteArray} {a n : Int} (h : a + n ≤ s.size) : skipC s a false n = (a + n, false) := by
  unfold skipC
  rw [if_neg (by omega)]
theorem numC_ok {s : ByteArray} {a u : Nat} {r : List UInt8} (hd : s.data.toList.drop a = enc u ++ r) (hu : u < 9223372036854775808) (ha : a ≤ s.size) : numC s (a : Int) false = ((u : Int), ((a + (enc u).length : Nat) : Int), false) := by
  unfold numC
  rw [getC_enc hd hu ha]
  dsimp only
  rw [if_pos rfl]
  push_cast
  rfl
theorem decS_enc {lo hi : Int} {O : List (List Int)} (f : Fits lo hi O) : decS (bytesB (Crc.sealL (bodyL lo hi O))) = (lo, hi, O, 0) := by
  obtain ⟨s, hs⟩ : ∃ s, bytesB (Crc.sealL (bodyL lo hi O)) = s := ⟨_, rfl⟩
  rw [hs]
  have hdata : s.data.toList = [115, 104] ++ (enc lo.toNat ++ (enc hi.toNat ++ ([UInt8.ofNat (maxW (degsC O)).toNat] ++ (packC (degsC O) ++ (O.flatMap encL ++ (enc (manyC O) ++ Crc.sum4 (bodyL lo hi O))))))) := by
    rw [← hs]
    show Crc.sealL (bodyL lo hi O) = _
    unfold Crc.sealL
    conv => lhs; arg 1; unfold bodyL
    simp
  have g0 := f.h0
  have g1 := f.h1
  have g2 := f.h2
  have hW := maxW_in (degsC O)
  have d0 : s.data.toList.drop 0 = _ := hdata
  obtain ⟨l0, _⟩ := drop_len d0 (by omega)
  have d1 := drop_more d0
  rw [Nat.zero_add] at d1 l0
  simp only [List.length_cons, List.length_nil] at d1 l0
  have e1 : skipC s 0 false 2 = (((0 + 1 + 1 : Nat) : Int), false) := by rw [skipC_ok (by omega)]; rfl
  obtain ⟨l1, _⟩ := drop_len d1 l0
  have d2 := drop_more d1
  have e2 := numC_ok d1 (by omega) l0
  obtain ⟨l2, _⟩ := drop_len d2 l1
  have d3 := drop_more d2
  have e3 := numC_ok d2 (by omega) l1
  obtain ⟨a2, ha2⟩ : ∃ a, 0 + 1 + 1 + (enc lo.toNat).length + (enc hi.toNat).length = a := ⟨_, rfl⟩
  rw [ha2] at d3 e3 l2
  obtain ⟨l3, _⟩ := drop_len d3 l2
  have d4 := drop_more d3
  simp only [List.length_cons, List.length_nil] at l3 d4
  obtain ⟨l4, _⟩ := drop_len d4 l3
  have d5 := drop_more d4
  have hbt : bt s (a2 : Int) = ((maxW (degsC O)).toNat : Int) := by
    obtain ⟨c, hc, hdc⟩ := bt_drop (s := s) (k := a2) (by omega)
    rw [hdc] at d3
    simp only [List.cons_append, List.nil_append, List.cons.injEq] at d3
    rw [hc, d3.1, u8_toNat (by omega)]
  have hmay : mayC lo hi = true := by
    unfold mayC
    rw [decide_eq_true g0, decide_eq_true g1, decide_eq_true g2]
    rfl
  have hpk := packC_size (degsC O)
  have hlen : ((degsC O).length : Int) = hi - lo := by rw [degs_len]; exact f.len
  have hn : (1 : Int) + ((hi - lo) * ((maxW (degsC O)).toNat : Int) + 7) / 8 = 1 + ((packC (degsC O)).length : Int) := by
    rw [hpk, ← hlen, Int.mul_comm]
  have hpart : partC s = ((lo, hi), ((a2 + 1 + (packC (degsC O)).length : Nat) : Int), false) := by
    unfold partC
    rw [e1]
    dsimp only
    rw [e2]
    dsimp only
    rw [e3]
    dsimp only
    rw [show ((lo.toNat : Nat) : Int) = lo by omega, show ((hi.toNat : Nat) : Int) = hi by omega]
    unfold partZ
    rw [if_neg (by rw [hmay]; simp; omega), hbt, hn, skipC_ok (by push_cast; omega)]
    congr 2
    push_cast
    omega
  have hls := lstsC_enc O (a2 + (0 + 1) + (packC (degsC O)).length) _ (fun L hL => ⟨(fits_rises f L hL).1, (fits_rises f L hL).2, by
    obtain ⟨j, hj⟩ := List.mem_iff_getElem?.1 hL
    have := many_len hj
    have := f.many
    omega⟩) l4 d5
  rw [show a2 + (0 + 1) + (packC (degsC O)).length = a2 + 1 + (packC (degsC O)).length by omega] at hls
  unfold decS
  rw [hpart]
  dsimp only
  rw [show (hi - lo).toNat = O.length by have := f.len; omega, hls.1, hls.2]
  unfold decZ
  rw [encS_fits f]
  dsimp only
  rw [if_neg (by rw [hs]; simp)]
/-- Bytes that a shard's differ from in four side by side are none's. -/
theorem decS_turned {lo hi : Int} {O : List (List Int)} (f : Fits lo hi O) {u v x y : List UInt8} (hx : x.length = 4) (hy : y.length = 4) (h : Crc.sealL (bodyL lo hi O) = u ++ (x ++ v)) (hne : x ≠ y) : decS (bytesB (u ++ (y ++ v))) = (0, 0, [], 10) := by
  rcases decS_or (bytesB (u ++ (y ++ v))) with h1 | ⟨lo', hi', O', _, hc, hb⟩
  · exact h1
  · exfalso
    rw [encS_fits (fits_of hc)] at hb
    have hb' : Crc.sealL (bodyL lo' hi' O') = u ++ (y ++ v) := by
      have := congrArg (fun s : ByteArray => s.data.toList) hb
      exact this
    exact hne (Crc.seal_burst h hb' hx hy)
/-- Bytes that are cut off are none's. -/
theorem decS_cut {lo hi : Int} {O : List (List Int)} (f : Fits lo hi O) {k : Nat} (hk : k < (Crc.sealL (bodyL lo hi O)).length) : decS (bytesB ((Crc.sealL (bodyL lo hi O)).take k)) = (0, 0, [], 10) := by
  rcases decS_or (bytesB ((Crc.sealL (bodyL lo hi O)).take k)) with h1 | ⟨lo', hi', O', _, hc, hb⟩
  · exact h1
  · exfalso
    rw [encS_fits (fits_of hc)] at hb
    have hb' : Crc.sealL (bodyL lo' hi' O') = (Crc.sealL (bodyL lo hi O)).take k := by
      have := congrArg (fun s : ByteArray => s.data.toList) hb
      exact this
    exact seal_cut f (fits_of hc) hk hb'.symm
end Go.Proofs.Ytdlmkdldmiiaiaa.E
