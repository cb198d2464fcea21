/- shards: what Encode tells, plainly. Conditions: those that each theorem names. -/
import Derived.Test.YtdlmkdldmiiaiaaBld
import Derived.Test.YtdlmkdldmiiaiaaPck
namespace Go.Proofs.Ytdlmkdldmiiaiaa.E
open Go.RowKit Go.Sort Go.Shelf
open Go.Proofs.Ytdlmkdldmiiaiaa.Ma Go.Proofs.Ytdlmkdldmiiaiaa.By Go.Proofs.Ytdlmkdldmiiaiaa.Enc
set_option linter.unusedVariables false
set_option linter.unusedSimpArgs false
def degsC (O : List (List Int)) : List Int := O.map fun L => (L.length : Int)
def bodyL (lo hi : Int) (O : List (List Int)) : List UInt8 :=
  [115, 104] ++ (enc lo.toNat ++ (enc hi.toNat ++ (UInt8.ofNat (maxW (degsC O)).toNat :: (packC (degsC O) ++ (O.flatMap encL ++ enc (manyC O))))))
/-- What Encode tells: the bytes, or why there are none. -/
def encS (lo hi : Int) (O : List (List Int)) : List UInt8 × Int := if checkC lo hi O = 0 then (Crc.sealL (bodyL lo hi O), 0) else ([], checkC lo hi O)
theorem listsC_at : ∀ {O : List (List Int)} {v : Int}, listsC v O = true → ∀ (j : Nat) (L : List Int), O[j]? = some L → listC (v + j) L = true := by
  intro O
  induction O with
  | nil => intro v _ j L h; simp at h
  | cons M r ih =>
    intro v h j L hj
    unfold listsC at h
    rw [Bool.and_eq_true] at h
    cases j with
    | zero => simp at hj; subst hj; simpa using h.1
    | succ j =>
      have := ih h.2 j L (by simpa using hj)
      rw [show v + ((j + 1 : Nat) : Int) = v + 1 + (j : Int) by omega]
      exact this
theorem listsC_of : ∀ {O : List (List Int)} {v : Int}, (∀ (j : Nat) (L : List Int), O[j]? = some L → listC (v + j) L = true) → listsC v O = true := by
  intro O
  induction O with
  | nil => intro v _; rfl
  | cons M r ih =>
    intro v h
    unfold listsC
    rw [Bool.and_eq_true]
    refine ⟨by simpa using h 0 M rfl, ih (fun j L hj => ?_)⟩
    have := h (j + 1) L (by simpa using hj)
    rw [show v + ((j + 1 : Nat) : Int) = v + 1 + (j : Int) by omega] at this
    exact this
structure Fits (lo hi : Int) (O : List (List Int)) : Prop where
  h0 : 0 ≤ lo
  h1 : lo < hi
  h2 : hi ≤ 256
  len : (O.length : Int) = hi - lo
  many : manyC O ≤ 4096
  each : ∀ (j : Nat) (L : List Int), O[j]? = some L → listC (lo + j) L = true
theorem fits_of {lo hi : Int} {O : List (List Int)} (h : checkC lo hi O = 0) : Fits lo hi O := by
  unfold checkC at h
  split at h
  · cases h
  · rename_i hc
    split at h
    · rename_i hl
      have hm : mayC lo hi = true := by
        cases hq : mayC lo hi
        · exact absurd (.inl hq) hc
        · rfl
      obtain ⟨a, b, c⟩ := mayC_in hm
      refine ⟨a, b, c, ?_, ?_, listsC_at hl⟩
      · exact Classical.byContradiction fun h => hc (.inr (.inl h))
      · exact Nat.le_of_not_lt fun h => hc (.inr (.inr h))
    · cases h
theorem checkC_zero {lo hi : Int} {O : List (List Int)} (h : Fits lo hi O) : checkC lo hi O = 0 := by
  unfold checkC
  have hm : mayC lo hi = true := by
    unfold mayC
    rw [decide_eq_true h.h0, decide_eq_true h.h1, decide_eq_true h.h2]
    rfl
  rw [hm, if_neg (by have := h.len; have := h.many; simp; omega), if_pos (listsC_of h.each)]
theorem checkC_two {lo hi : Int} {O : List (List Int)} (h : checkC lo hi O ≠ 0) : checkC lo hi O = 2 := by
  unfold checkC at h ⊢
  split at h
  · rename_i hc; rw [if_pos hc]
  · rename_i hc
    rw [if_neg hc]
    split at h
    · exact absurd rfl h
    · rename_i hl; rw [if_neg hl]
/-- A list that may be: it rises, and is of vertices. -/
theorem listC_in {v : Int} {L : List Int} (h : listC v L = true) : rises (-1) L = true ∧ ∀ x ∈ L, 0 ≤ x ∧ x < 256 := by
  unfold listC at h
  simp only [Bool.and_eq_true] at h
  obtain ⟨h1, _, h3⟩ := h
  refine ⟨h1, ?_⟩
  obtain ⟨r1, r2⟩ := rises_lt L (-1) h1
  have hle : ∀ (n : Nat) (x y : Int) (k : Nat), L[k]? = some x → L[k + n]? = some y → x ≤ y := by
    intro n
    induction n with
    | zero => intro x y k hx hy; rw [Nat.add_zero, hx] at hy; cases hy; exact Int.le_refl _
    | succ n ih =>
      intro x y k hx hy
      have hlt := (List.getElem?_eq_some_iff.1 hy).1
      obtain ⟨z, hz⟩ : ∃ z, L[k + n]? = some z := ⟨_, List.getElem?_eq_getElem (by omega)⟩
      have := ih x z k hx hz
      have := r2 (k + n) y z hz hy
      omega
  intro x hx
  refine ⟨by have := r1 x hx; omega, ?_⟩
  obtain ⟨k, hk⟩ := List.mem_iff_getElem?.1 hx
  have hkl := (List.getElem?_eq_some_iff.1 hk).1
  unfold lastC at h3
  have hne : L.isEmpty = false := by cases L <;> simp_all
  rw [hne, Bool.false_or, decide_eq_true_eq, List.getLastD_eq_getLast?, List.getLast?_eq_getElem?] at h3
  obtain ⟨y, hy⟩ : ∃ y, L[L.length - 1]? = some y := ⟨_, List.getElem?_eq_getElem (by omega)⟩
  rw [hy] at h3
  have := hle (L.length - 1 - k) x y k hk (by rw [show k + (L.length - 1 - k) = L.length - 1 by omega]; exact hy)
  simp at h3
  omega
theorem gapL_lt : ∀ (L : List Int) (nx : Int), 0 ≤ nx → (∀ x ∈ L, 0 ≤ x ∧ x < 256) → ∀ y ∈ gapL nx L, y < 256 := by
  intro L
  induction L with
  | nil => intro nx _ _ y hy; cases hy
  | cons n r ih =>
    intro nx h0 hx y hy
    unfold gapL at hy
    rcases List.mem_cons.1 hy with rfl | hy
    · have := hx n List.mem_cons_self; omega
    · exact ih (n + 1) (by have := hx n List.mem_cons_self; omega) (fun x h => hx x (List.mem_cons_of_mem _ h)) y hy
theorem gapL_length : ∀ (L : List Int) (nx : Int), (gapL nx L).length = L.length := by
  intro L
  induction L with
  | nil => intro _; rfl
  | cons n r ih => intro nx; unfold gapL; simp [ih]
theorem encL_len {L : List Int} (hx : ∀ x ∈ L, 0 ≤ x ∧ x < 256) (hl : L.length ≤ 1000000) : (encL L).length ≤ 10 * (L.length + 1) := by
  unfold encL
  rw [List.length_append]
  have h1 := enc_len10 (u := L.length) (by omega)
  have h2 : ∀ (G : List Int), (∀ y ∈ G, y < 256) → (G.flatMap fun x => enc x.toNat).length ≤ 10 * G.length := by
    intro G
    induction G with
    | nil => intro _; simp
    | cons g r ih =>
      intro hG
      rw [List.flatMap_cons, List.length_append]
      have := ih (fun y h => hG y (List.mem_cons_of_mem _ h))
      have h3 := hG g List.mem_cons_self
      have := enc_len10 (u := g.toNat) (by omega)
      simp only [List.length_cons]
      omega
  have := h2 (gapL 0 L) (gapL_lt L 0 (Int.le_refl _) hx)
  rw [gapL_length] at this
  omega
theorem encL_ne (L : List Int) : encL L ≠ [] := by
  unfold encL
  intro h
  exact enc_ne _ (List.append_eq_nil_iff.1 h).1
theorem flat_take {O : List (List Int)} {k : Nat} {L : List Int} (h : O[k]? = some L) : (O.take (k + 1)).flatMap encL = (O.take k).flatMap encL ++ encL L := by
  rw [List.take_add_one, h, List.flatMap_append]
  simp
theorem degs_take {O : List (List Int)} {k : Nat} {L : List Int} (h : O[k]? = some L) : degsC (O.take (k + 1)) = degsC (O.take k) ++ [(L.length : Int)] := by
  unfold degsC
  rw [List.take_add_one, h, List.map_append]
  simp
theorem degs_len (O : List (List Int)) : (degsC O).length = O.length := by unfold degsC; simp
theorem flat_len {O : List (List Int)} (hx : ∀ (j : Nat) (L : List Int), O[j]? = some L → (∀ x ∈ L, 0 ≤ x ∧ x < 256)) (hm : manyC O ≤ 1000000) : ∀ k, k ≤ O.length → ((O.take k).flatMap encL).length ≤ 10 * (manyC (O.take k) + k) := by
  intro k
  induction k with
  | zero => intro _; simp
  | succ k ih =>
    intro hk
    obtain ⟨L, hL⟩ : ∃ L, O[k]? = some L := ⟨_, List.getElem?_eq_getElem (by omega)⟩
    have h1 := ih (by omega)
    rw [flat_take hL, manyC_take hL, List.length_append]
    have h2 := many_len hL
    have := encL_len (hx k L hL) (by omega)
    omega
/-! ### what builders and rows of numbers leave of each other -/
theorem bldF_fr {T e B b : Nat} {bs : List Value} {w w' : World} {S : Nat → Prop} (h : Lib.IsBuilderF T e B b bs w) (hf : Fr S w w') (hS : ∀ k, S k → ∃ cs fz, w.heap[k]? = some (.cells cs 3 fz)) (hT : T ≠ 3) (he : e ≠ 3) : Lib.IsBuilderF T e B b bs w' := by
  have key : ∀ p, Lib.BuilderAtF T e B b p bs w → Lib.BuilderAtF T e B b p bs w' := by
    rintro p ⟨hB, v, hh, hown, hne⟩
    refine ⟨hB, v, hf.keep hh (fun hs => ?_), ⟨hown.1, ?_⟩, hne⟩
    · obtain ⟨cs, fz, hc⟩ := hS _ hs
      rw [hh] at hc
      cases hc
      exact hT rfl
    · rcases hown.2 with h1 | ⟨g, cap, cur, fz, e1, hg, hc, r⟩
      · exact .inl h1
      · refine .inr ⟨g, cap, cur, fz, e1, hg, hf.keep hc (fun hs => ?_), r⟩
        obtain ⟨cs, fz', hc'⟩ := hS _ hs
        rw [hc] at hc'
        cases hc'
        exact he rfl
  exact h.elim (fun x => .inl (key _ x)) (fun x => .inr (key _ x))
theorem row_kind {w : World} {B n : Nat} {v : Value} {xs : List Value} (h : w.ownsRow B 3 1 v n xs) : ∀ k, v.ownBlock = some k → ∃ cs fz, w.heap[k]? = some (.cells cs 3 fz) := fun k hk => by
  rcases h.2 with ⟨e, _⟩ | ⟨g, cap, cur, e, _, hg, _⟩
  · rw [e] at hk; cases hk
  · rw [e] at hk
    cases hk
    exact ⟨_, _, hg⟩
theorem row_others {w w' : World} {B b n : Nat} {v : Value} {xs : List Value} {cs : Array Value} {fz : Nat × Nat} (h : w.ownsRow B 3 1 v n xs) (ho : Lib.OthersKept 5 (some b) w w') (hb : w.heap[b]? = some (.cells cs 75 fz)) : w'.ownsRow B 3 1 v n xs := by
  refine ⟨h.1, ?_⟩
  rcases h.2 with h1 | ⟨g, cap, cur, e, hB, hg, r⟩
  · exact .inl h1
  · refine .inr ⟨g, cap, cur, e, hB, ho g _ hg ?_ ?_, r⟩
    · intro e'
      cases e'
      rw [hb] at hg
      cases hg
    · rintro c' fz' e'
      cases e'
theorem row_below {w w' : World} {B n : Nat} {v : Value} {xs : List Value} (h : w.ownsRow B 3 1 v n xs) (hb : Below w.heap.size w w') : w'.ownsRow B 3 1 v n xs := (Fr.of_below hb).row h (fun _ _ e => e)
/-! ### the worlds of Encode's last statement -/
structure EC (bx B g : Nat) (lo hi : Int) (A : Option Addr) (n c : Nat) (acc : List UInt8) (y : Int) (w0 : World) (x : Option Value) (V : World) : Prop where
  lt : bx < B
  c0 : V.cell? ⟨bx, 0, none⟩ = some (.int .i64 lo)
  c1 : V.cell? ⟨bx, 1, none⟩ = some (.int .i64 hi)
  c2 : V.cell? ⟨bx, 2, none⟩ = some (.slice A n c)
  below : Below B w0 V
  le : B ≤ V.heap.size
  bld : Bld B B g acc V
  lay : ∀ r, x = some r → ∃ k, r = .slice (some ⟨k, 0, none⟩) 1 1 ∧ V.heap[k]? = some (.cells #[.int .u8 y] 5 (0, 0)) ∧ k ≠ g
section
variable {bx B g : Nat} {lo hi : Int} {A : Option Addr} {n c : Nat} {acc : List UInt8} {y : Int} {w0 : World} {x : Option Value} {V V' : World}
theorem EC.fr {S : Nat → Prop} (h : EC bx B g lo hi A n c acc y w0 x V) (hf : Fr S V V') (hS : ∀ k, S k → k = g) (hb : Bld B B g acc V') : EC bx B g lo hi A n c acc y w0 x V' := by
  have hg := h.bld.hg
  have hlt := h.lt
  have hle := h.le
  have hbx : ¬ S bx := fun e => by have := hS _ e; omega
  refine ⟨h.lt, hf.cell h.c0 (by omega) hbx, hf.cell h.c1 (by omega) hbx, hf.cell h.c2 (by omega) hbx, h.below.trans (hf.below hle (fun k hk => by have := hS k hk; omega)), Nat.le_trans hle hf.size, hb, fun r hr => ?_⟩
  obtain ⟨k, e, hk, hne⟩ := h.lay r hr
  exact ⟨k, e, hf.keep hk (fun e' => hne (hS k e')), hne⟩
theorem EC.to (h : EC bx B g lo hi A n c acc y w0 x V) (hb : Below V.heap.size V V') : EC bx B g lo hi A n c acc y w0 x V' := h.fr (Fr.of_below hb) (fun _ e => e.elim) (h.bld.to hb)
theorem EC.lays (h : EC bx B g lo hi A n c acc y w0 none V) : EC bx B g lo hi A n c acc y w0 (some (.slice (some ⟨V.heap.size, 0, none⟩) 1 1)) (V.alloc (.cells #[.int .u8 y] 5)) := by
  have k := h.to ((Below.refl _ _).alloc (Nat.le_refl _) (.cells #[.int .u8 y] 5))
  refine ⟨k.lt, k.c0, k.c1, k.c2, k.below, k.le, k.bld, fun r hr => ?_⟩
  cases hr
  exact ⟨_, rfl, heap_alloc_new V _, fun e => by have := h.bld.lt.1; omega⟩
end
theorem text_one (w : World) (b : Nat) (a : UInt8) (h : w.heap[b]? = some (.cells #[.int .u8 (a.toNat : Int)] 5 (0, 0))) :
    (convert 52 9 (.slice (some ⟨b, 0, none⟩) 1 1)).run Try.prog w = .ok (.string (bytesB [a])) w := by
  refine run_convert_bytes_back (P := Try.prog) w 52 9 5 ⟨b, 0, none⟩ 1 [a] Try.underlying52 Try.underlying5 Try.underlying9 (fun k hk => ?_)
  have e2 : (⟨b, 0, none⟩ : Addr).add k = ⟨b, 0 + k, none⟩ := by
    unfold Addr.add
    split
    · rename_i e; subst e; rfl
    · rfl
  rw [e2, Nat.zero_add]
  refine cell_of_heap h ?_
  simp only [List.length_cons, List.length_nil] at hk
  match k, hk with
  | 0, _ => rfl
theorem flushN_len : ∀ (w f h : Nat) (m : Int) (o : List UInt8), (flushN w f h m o).2.2.length ≤ o.length + f := by
  intro w f
  induction f with
  | zero => intro h m o; exact Nat.le_refl _
  | succ f ih =>
    intro h m o
    unfold flushN
    split
    · have := ih (h / 256) (m - 8) (o ++ [UInt8.ofNat h])
      rw [List.length_append] at this
      simp only [List.length_cons, List.length_nil] at this
      omega
    · simp
theorem packTo_len (W : Nat) : ∀ (L : List Int) (st : Nat × Int × List UInt8), (L.foldl (packStep W) st).2.2.length ≤ st.2.2.length + 10 * L.length := by
  intro L
  induction L with
  | nil => intro st; simp
  | cons x r ih =>
    intro st
    rw [List.foldl_cons]
    have h1 := ih (packStep W st x)
    have h2 := flushN_len 8 10 (st.1 + x.toNat * 2 ^ st.2.1.toNat) (st.2.1 + W) st.2.2
    unfold packStep at h1 ⊢
    simp only [List.length_cons]
    omega
theorem packC_len (L : List Int) : (packC L).length ≤ 10 * L.length + 10 := by
  unfold packC
  have h1 := flushN_len 1 10 (packTo (maxW L).toNat L).1 (packTo (maxW L).toNat L).2.1 (packTo (maxW L).toNat L).2.2
  have h2 := packTo_len (maxW L).toNat L (0, 0, [])
  unfold packTo at h1 ⊢
  simp only [List.length_nil] at h2
  omega
theorem bytesB_size (l : List UInt8) : (bytesB l).size = l.length := by unfold ByteArray.size; simp
theorem bytesB_append (l m : List UInt8) : bytesB l ++ bytesB m = bytesB (l ++ m) := by
  apply ByteArray.ext
  rw [ByteArray.data_append]
  simp
theorem putC_nat (n : Int) (h : 0 ≤ n) : putC n = bytesB (enc n.toNat) := by
  unfold putC
  rw [if_neg (by omega)]
  rfl
end Go.Proofs.Ytdlmkdldmiiaiaa.E
