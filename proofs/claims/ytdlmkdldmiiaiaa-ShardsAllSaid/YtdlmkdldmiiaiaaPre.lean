/- Plain: no shard's bytes begin another one's; what is encoded is decoded. No condition but those that each theorem names. -/
import Derived.Test.YtdlmkdldmiiaiaaWay
namespace Go.Proofs.Ytdlmkdldmiiaiaa.E
open Go.RowKit Go.Sort Go.Shelf
open Go.Proofs.Ytdlmkdldmiiaiaa.Ma Go.Proofs.Ytdlmkdldmiiaiaa.By Go.Proofs.Ytdlmkdldmiiaiaa.Enc
set_option linter.unusedVariables false
set_option linter.unusedSimpArgs false
/-! ### lists -/
theorem flat_free : ∀ (G G' : List Int) (r r' : List UInt8), G.length = G'.length → (G.flatMap fun x => enc x.toNat) ++ r = (G'.flatMap fun x => enc x.toNat) ++ r' → G.map Int.toNat = G'.map Int.toNat ∧ r = r' := by
  intro G
  induction G with
  | nil => intro G' r r' hl h; cases G' with
    | nil => exact ⟨rfl, h⟩
    | cons => cases hl
  | cons g G ih =>
    intro G' r r' hl h
    cases G' with
    | nil => cases hl
    | cons g' G' =>
      rw [List.flatMap_cons, List.flatMap_cons, List.append_assoc, List.append_assoc] at h
      obtain ⟨h1, h2⟩ := enc_free _ _ _ _ h
      obtain ⟨h3, h4⟩ := ih G' r r' (by simpa using hl) h2
      exact ⟨by rw [List.map_cons, List.map_cons, h1, h3], h4⟩
/-- Each number is behind what comes ahead. -/
theorem gapL_pos : ∀ (L : List Int) (last : Int), rises last L = true → ∀ y ∈ gapL (last + 1) L, 0 ≤ y := by
  intro L
  induction L with
  | nil => intro _ _ y hy; cases hy
  | cons n r ih =>
    intro last h y hy
    unfold rises at h
    split at h
    · cases h
    · rename_i hn
      unfold gapL at hy
      rcases List.mem_cons.1 hy with rfl | hy
      · omega
      · exact ih n h y hy
theorem gapL_inj : ∀ (L L' : List Int) (nx : Int), gapL nx L = gapL nx L' → L = L' := by
  intro L
  induction L with
  | nil => intro L' nx h; cases L' with
    | nil => rfl
    | cons => unfold gapL at h; cases h
  | cons n r ih =>
    intro L' nx h
    cases L' with
    | nil => unfold gapL at h; cases h
    | cons n' r' =>
      unfold gapL at h
      rw [List.cons.injEq] at h
      have : n = n' := by have := h.1; omega
      subst this
      rw [ih r' (n + 1) h.2]
theorem toNat_inj : ∀ (G G' : List Int), (∀ y ∈ G, 0 ≤ y) → (∀ y ∈ G', 0 ≤ y) → G.map Int.toNat = G'.map Int.toNat → G = G' := by
  intro G
  induction G with
  | nil => intro G' _ _ h; cases G' with
    | nil => rfl
    | cons => cases h
  | cons g G ih =>
    intro G' h1 h2 h
    cases G' with
    | nil => cases h
    | cons g' G' =>
      rw [List.map_cons, List.map_cons, List.cons.injEq] at h
      have a := h1 g List.mem_cons_self
      have b := h2 g' List.mem_cons_self
      rw [show g = g' by have := h.1; omega, ih G' (fun y hy => h1 y (List.mem_cons_of_mem _ hy)) (fun y hy => h2 y (List.mem_cons_of_mem _ hy)) h.2]
theorem encL_free {L L' : List Int} {r r' : List UInt8} (h1 : rises (-1) L = true) (h2 : rises (-1) L' = true) (h : encL L ++ r = encL L' ++ r') : L = L' ∧ r = r' := by
  unfold encL at h
  rw [List.append_assoc, List.append_assoc] at h
  obtain ⟨hl, hr⟩ := enc_free _ _ _ _ h
  obtain ⟨hm, hr'⟩ := flat_free _ _ _ _ (by rw [gapL_length, gapL_length]; exact hl) hr
  exact ⟨gapL_inj _ _ 0 (toNat_inj _ _ (gapL_pos L (-1) h1) (gapL_pos L' (-1) h2) hm), hr'⟩
theorem lists_free : ∀ (O O' : List (List Int)) (r r' : List UInt8), O.length = O'.length → (∀ L ∈ O, rises (-1) L = true) → (∀ L ∈ O', rises (-1) L = true) → O.flatMap encL ++ r = O'.flatMap encL ++ r' → O = O' ∧ r = r' := by
  intro O
  induction O with
  | nil => intro O' r r' hl _ _ h; cases O' with
    | nil => exact ⟨rfl, h⟩
    | cons => cases hl
  | cons L O ih =>
    intro O' r r' hl h1 h2 h
    cases O' with
    | nil => cases hl
    | cons L' O' =>
      rw [List.flatMap_cons, List.flatMap_cons, List.append_assoc, List.append_assoc] at h
      obtain ⟨e1, h3⟩ := encL_free (h1 L List.mem_cons_self) (h2 L' List.mem_cons_self) h
      obtain ⟨e2, e3⟩ := ih O' r r' (by simpa using hl) (fun L h => h1 L (List.mem_cons_of_mem _ h)) (fun L h => h2 L (List.mem_cons_of_mem _ h)) h3
      exact ⟨by rw [e1, e2], e3⟩
/-! ### the table -/
theorem flushN_bits : ∀ (w f h : Nat) (m : Int) (o : List UInt8), 8 * ((flushN w f h m o).2.2.length : Int) + (flushN w f h m o).2.1 = 8 * (o.length : Int) + m := by
  intro w f
  induction f with
  | zero => intro h m o; rfl
  | succ f ih =>
    intro h m o
    unfold flushN
    split
    · rw [ih, List.length_append]
      simp
      omega
    · rfl
theorem flushN_m : ∀ (f h : Nat) (m : Int) (o : List UInt8), 0 ≤ m → m < 8 * (f : Int) → 0 ≤ (flushN 8 f h m o).2.1 ∧ (flushN 8 f h m o).2.1 < 8 := by
  intro f
  induction f with
  | zero => intro h m o h0 h1; omega
  | succ f ih =>
    intro h m o h0 h1
    unfold flushN
    split
    · rename_i hc
      exact ih _ _ _ (by omega) (by omega)
    · rename_i hc
      exact ⟨h0, by show m < 8; have : ¬ ((8 : Int) ≤ m ∧ 0 < m) := hc; omega⟩
theorem packTo_bits (W : Nat) (hW : W ≤ 33) : ∀ (L : List Int) (st : Nat × Int × List UInt8), 0 ≤ st.2.1 ∧ st.2.1 < 8 → 8 * ((L.foldl (packStep W) st).2.2.length : Int) + (L.foldl (packStep W) st).2.1 = 8 * (st.2.2.length : Int) + st.2.1 + W * L.length ∧ 0 ≤ (L.foldl (packStep W) st).2.1 ∧ (L.foldl (packStep W) st).2.1 < 8 := by
  intro L
  induction L with
  | nil => intro st h; simp; exact h
  | cons x r ih =>
    intro st h
    rw [List.foldl_cons]
    have hm := flushN_m 10 (st.1 + x.toNat * 2 ^ st.2.1.toNat) (st.2.1 + W) st.2.2 (by omega) (by omega)
    have hb := flushN_bits 8 10 (st.1 + x.toNat * 2 ^ st.2.1.toNat) (st.2.1 + W) st.2.2
    have := ih (packStep W st x) hm
    refine ⟨?_, this.2⟩
    rw [this.1]
    have e : 8 * ((packStep W st x).2.2.length : Int) + (packStep W st x).2.1 = 8 * (st.2.2.length : Int) + (st.2.1 + W) := hb
    rw [e, List.length_cons]
    push_cast
    rw [Int.mul_add, Int.mul_one]
    omega
theorem packC_size (L : List Int) : ((packC L).length : Int) = ((maxW L).toNat * L.length + 7) / 8 := by
  unfold packC
  have hw := maxW_in L
  obtain ⟨b1, b2, b3⟩ := packTo_bits (maxW L).toNat (by omega) L (0, 0, []) (by simp)
  unfold packTo
  generalize L.foldl (packStep (maxW L).toNat) (0, 0, []) = st at b1 b2 b3 ⊢
  obtain ⟨h, m, o⟩ := st
  dsimp only at b1 b2 b3 ⊢
  simp only [List.length_nil] at b1
  by_cases h0 : m = 0
  · subst h0
    have e : flushN 1 10 h 0 o = (h, 0, o) := by
      unfold flushN
      rw [if_neg (by simp)]
    rw [e]
    dsimp only
    omega
  · have e : flushN 1 10 h m o = (h / 256, m - 8, o ++ [UInt8.ofNat h]) := by
      unfold flushN
      rw [if_pos (by omega)]
      unfold flushN
      rw [if_neg (by omega)]
    rw [e]
    dsimp only
    rw [List.length_append]
    show ((o.length + 1 : Nat) : Int) = _
    push_cast
    omega
/-! ### shards -/
theorem fits_rises {lo hi : Int} {O : List (List Int)} (f : Fits lo hi O) : ∀ L ∈ O, rises (-1) L = true ∧ (∀ x ∈ L, 0 ≤ x ∧ x < 256) := fun L hL => by
  obtain ⟨j, hj⟩ := List.mem_iff_getElem?.1 hL
  exact listC_in (f.each j L hj)
theorem body_free {lo hi lo' hi' : Int} {O O' : List (List Int)} {r r' : List UInt8} (f : Fits lo hi O) (f' : Fits lo' hi' O') (h : bodyL lo hi O ++ r = bodyL lo' hi' O' ++ r') : lo = lo' ∧ hi = hi' ∧ O = O' ∧ r = r' := by
  unfold bodyL at h
  simp only [List.append_assoc, List.cons_append, List.nil_append, List.cons.injEq, true_and] at h
  obtain ⟨e1, k1⟩ := enc_free _ _ _ _ h
  obtain ⟨e2, k2⟩ := enc_free _ _ _ _ k1
  rw [List.cons.injEq] at k2
  obtain ⟨e3, k3⟩ := k2
  clear h k1
  have g := f.h0
  have g1 := f.h1
  have g' := f'.h0
  have g1' := f'.h1
  have el : lo = lo' := by omega
  have eh : hi = hi' := by omega
  subst el eh
  have w1 := maxW_in (degsC O)
  have w2 := maxW_in (degsC O')
  have ew := u8_inj (by omega) (by omega) e3
  have len : O.length = O'.length := by have := f.len; have := f'.len; omega
  have ep : (packC (degsC O)).length = (packC (degsC O')).length := by
    have a := packC_size (degsC O)
    have b := packC_size (degsC O')
    rw [ew, degs_len, len, ← degs_len O', ← b] at a
    omega
  obtain ⟨_, k4⟩ := List.append_inj k3 ep
  obtain ⟨eO, k5⟩ := lists_free O O' _ _ len (fun L hL => (fits_rises f L hL).1) (fun L hL => (fits_rises f' L hL).1) k4
  obtain ⟨_, h⟩ := enc_free _ _ _ _ k5
  exact ⟨rfl, rfl, eO, h⟩
/-- Unlike shards have unlike bytes. -/
theorem seal_inj {lo hi lo' hi' : Int} {O O' : List (List Int)} (f : Fits lo hi O) (f' : Fits lo' hi' O') (h : Crc.sealL (bodyL lo hi O) = Crc.sealL (bodyL lo' hi' O')) : lo = lo' ∧ hi = hi' ∧ O = O' := by
  unfold Crc.sealL at h
  obtain ⟨a, b, c, _⟩ := body_free f f' h
  exact ⟨a, b, c⟩
/-- None is another one, cut off. -/
theorem seal_cut {lo hi lo' hi' : Int} {O O' : List (List Int)} {k : Nat} (f : Fits lo hi O) (f' : Fits lo' hi' O') (hk : k < (Crc.sealL (bodyL lo hi O)).length) : (Crc.sealL (bodyL lo hi O)).take k ≠ Crc.sealL (bodyL lo' hi' O') := by
  intro h
  have h1 : Crc.sealL (bodyL lo hi O) = Crc.sealL (bodyL lo' hi' O') ++ (Crc.sealL (bodyL lo hi O)).drop k := by rw [← h, List.take_append_drop]
  have h2 := h1
  unfold Crc.sealL at h2
  rw [List.append_assoc] at h2
  obtain ⟨a, b, c, h3⟩ := body_free f f' h2
  have := congrArg List.length h3
  rw [List.length_append, List.length_drop] at this
  have l1 : (Crc.sum4 (bodyL lo hi O)).length = 4 := rfl
  have l2 : (Crc.sum4 (bodyL lo' hi' O')).length = 4 := rfl
  have l3 : (Crc.sealL (bodyL lo hi O)).length = (bodyL lo hi O ++ Crc.sum4 (bodyL lo hi O)).length := rfl
  rw [l1, l2] at this
  omega
/-! ### what is encoded is decoded -/
theorem data_drop (l : List UInt8) : (bytesB l).data.toList = l := rfl
theorem getGo_enc : ∀ (u i acc : Nat) (r : List UInt8), i + (enc u).length ≤ 9 → (i = 0 ∨ 0 < u) → getGo (enc u ++ r) i acc = some (acc + u * 128 ^ i, i + (enc u).length) := by
  intro u
  induction u using Nat.strongRecOn with
  | ind u ih =>
    intro i acc r hi h0
    by_cases hu : u < 128
    · rw [enc_small hu] at hi ⊢
      simp only [List.length_cons, List.length_nil] at hi
      show getGo (UInt8.ofNat u :: r) i acc = _
      unfold getGo
      rw [u8_toNat (by omega), if_neg (by omega), if_neg (by omega), if_pos hu, if_pos (by omega), Nat.mod_eq_of_lt hu]
      rfl
    · rw [enc_big (by omega)] at hi ⊢
      simp only [List.length_cons] at hi
      show getGo (UInt8.ofNat (u % 128 + 128) :: (enc (u / 128) ++ r)) i acc = _
      unfold getGo
      have hp := enc_pos (u / 128)
      rw [u8_toNat (by omega), if_neg (by omega), if_neg (by omega), if_neg (by omega), ih (u / 128) (by omega) (i + 1) _ r (by omega) (.inr (by omega)), show (u % 128 + 128) % 128 = u % 128 by omega, parts_of rfl]
      simp only [List.length_cons]
      congr 2
      omega
/-- A number that stands there is got there. -/
theorem getC_enc {s : ByteArray} {a u : Nat} {r : List UInt8} (hd : s.data.toList.drop a = enc u ++ r) (hu : u < 9223372036854775808) (ha : a ≤ s.size) : getC s (a : Int) = ((u : Int), (a : Int) + ((enc u).length : Int), true) := by
  unfold getC
  have hl := enc_len 8 u (by have := p128'; omega)
  rw [if_neg (by omega), Int.toNat_natCast, hd, getGo_enc u 0 0 r (by omega) (.inl rfl)]
  dsimp only
  rw [Nat.zero_add, Nat.pow_zero, Nat.mul_one, Nat.zero_add, if_pos (by omega)]
theorem drop_more {s : ByteArray} {a : Nat} {l r : List UInt8} (hd : s.data.toList.drop a = l ++ r) : s.data.toList.drop (a + l.length) = r := by
  rw [← List.drop_drop, hd, List.drop_left]
theorem drop_len {s : ByteArray} {a : Nat} {l r : List UInt8} (hd : s.data.toList.drop a = l ++ r) (ha : a ≤ s.size) : a + l.length ≤ s.size ∧ s.size = a + l.length + r.length := by
  have := congrArg List.length hd
  rw [List.length_drop, List.length_append, data_len] at this
  omega
theorem decGo_enc {s : ByteArray} : ∀ (L : List Int) (last : Int) (a : Nat) (r : List UInt8), -1 ≤ last → last < 256 → rises last L = true → (∀ x ∈ L, 0 ≤ x ∧ x < 256) → a ≤ s.size →
    s.data.toList.drop a = ((gapL (last + 1) L).flatMap fun x => enc x.toNat) ++ r → decGo s L.length last (a : Int) = some (L, (a : Int) + (((gapL (last + 1) L).flatMap fun x => enc x.toNat).length : Int)) := by
  intro L
  induction L with
  | nil => intro last a r _ _ _ _ _ _; simp [gapL, decGo]
  | cons n t ih =>
    intro last a r h1 h2 hr hx ha hd
    have hn := hx n List.mem_cons_self
    unfold rises at hr
    split at hr
    · cases hr
    · rename_i hlt
      unfold gapL at hd ⊢
      rw [List.flatMap_cons, List.append_assoc] at hd
      have hg := getC_enc hd (by omega) ha
      obtain ⟨l1, _⟩ := drop_len hd ha
      have hd2 := drop_more hd
      have := ih n (a + (enc (n - (last + 1)).toNat).length) r (by omega) hn.2 hr (fun x h => hx x (List.mem_cons_of_mem _ h)) l1 hd2
      show decGo s (t.length + 1) last (a : Int) = _
      unfold decGo
      rw [hg]
      dsimp only
      rw [if_neg (by simp; omega), show last + (((n - (last + 1)).toNat : Int) + 1) = n by omega, show ((a : Int) + ((enc (n - (last + 1)).toNat).length : Int)) = ((a + (enc (n - (last + 1)).toNat).length : Nat) : Int) by push_cast; rfl, this]
      rw [List.flatMap_cons, List.length_append]
      simp
      omega
theorem flat_ge : ∀ (G : List Int), G.length ≤ (G.flatMap fun x => enc x.toNat).length := by
  intro G
  induction G with
  | nil => simp
  | cons g r ih =>
    rw [List.flatMap_cons, List.length_append, List.length_cons]
    have := enc_pos g.toNat
    omega
theorem decC_enc {s : ByteArray} {L : List Int} {a : Nat} {r : List UInt8} (hr : rises (-1) L = true) (hx : ∀ x ∈ L, 0 ≤ x ∧ x < 256) (hl : L.length < 1000000) (ha : a ≤ s.size) (hd : s.data.toList.drop a = encL L ++ r) :
    decC s (a : Int) = (L, (a : Int) + ((encL L).length : Int), 0) := by
  unfold encL at hd ⊢
  rw [List.append_assoc] at hd
  have hg := getC_enc hd (by omega) ha
  obtain ⟨l1, l2⟩ := drop_len hd ha
  have hd2 := drop_more hd
  have hge := flat_ge (gapL 0 L)
  rw [gapL_length] at hge
  rw [List.length_append] at l2
  have hgo := decGo_enc L (-1) (a + (enc L.length).length) r (by omega) (by omega) hr hx l1 hd2
  unfold decC
  rw [hg]
  dsimp only
  rw [if_neg (by simp; omega), Int.toNat_natCast, show ((a : Int) + ((enc L.length).length : Int)) = ((a + (enc L.length).length : Nat) : Int) by push_cast; rfl, hgo]
  show (L, _, (0 : Int)) = _
  rw [List.length_append]
  congr 2
  push_cast
  show _ + (((gapL 0 L).flatMap fun x => enc x.toNat).length : Int) = _
  omega
theorem lstsC_enc {s : ByteArray} : ∀ (O : List (List Int)) (a : Nat) (r : List UInt8), (∀ L ∈ O, rises (-1) L = true ∧ (∀ x ∈ L, 0 ≤ x ∧ x < 256) ∧ L.length < 1000000) → a ≤ s.size → s.data.toList.drop a = O.flatMap encL ++ r →
    (lstsC s O.length (a : Int) false).1 = O ∧ (lstsC s O.length (a : Int) false).2.2 = false := by
  intro O
  induction O with
  | nil => intro a r _ _ _; exact ⟨rfl, rfl⟩
  | cons L O ih =>
    intro a r h ha hd
    rw [List.flatMap_cons, List.append_assoc] at hd
    obtain ⟨h1, h2, h3⟩ := h L List.mem_cons_self
    have hc := decC_enc h1 h2 h3 ha hd
    obtain ⟨l1, _⟩ := drop_len hd ha
    obtain ⟨i1, i2⟩ := ih (a + (encL L).length) r (fun M hM => h M (List.mem_cons_of_mem _ hM)) l1 (drop_more hd)
    have hl : lstC s (a : Int) false = (L, ((a + (encL L).length : Nat) : Int), false) := by
      unfold lstC
      rw [hc]
      dsimp only
      rw [if_pos rfl]
      push_cast
      rfl
    rw [List.length_cons]
    unfold lstsC
    rw [hl]
    dsimp only
    rw [i1, i2]
    exact ⟨rfl, rfl⟩
end Go.Proofs.Ytdlmkdldmiiaiaa.E
