/- gaps.Encode: a list's bytes. Conditions: those that each theorem names. -/
import Derived.Test.YtdlmkdldmiiaiaaEnc
namespace Go.Proofs.Ytdlmkdldmiiaiaa.E
open Go.RowKit Go.Sort Go.Shelf
open Go.Proofs.Ytdlmkdldmiiaiaa.Ma Go.Proofs.Ytdlmkdldmiiaiaa.By Go.Proofs.Ytdlmkdldmiiaiaa.Enc
set_option linter.unusedVariables false
set_option linter.unusedSimpArgs false
def gapL : Int → List Int → List Int
  | _, [] => []
  | nx, n :: r => (n - nx) :: gapL (n + 1) r
def encL (L : List Int) : List UInt8 := enc L.length ++ (gapL 0 L).flatMap fun x => enc x.toNat
/-- What Encode tells: the bytes, or why there are none. -/
def encC (L : List Int) : List UInt8 × Int := if chkG L = 0 then (encL L, 0) else ([], chkG L)
theorem rises_lt : ∀ (L : List Int) (last : Int), rises last L = true → (∀ x ∈ L, last < x) ∧ ∀ (k : Nat) (x y : Int), L[k]? = some y → L[k + 1]? = some x → y < x := by
  intro L
  induction L with
  | nil => intro last _; exact ⟨fun x hx => (by cases hx), fun k x y h => (by cases h)⟩
  | cons n r ih =>
    intro last h
    unfold rises at h
    split at h
    · cases h
    · rename_i hn
      obtain ⟨h1, h2⟩ := ih n h
      refine ⟨fun x hx => ?_, fun k x y hy hx => ?_⟩
      · rcases List.mem_cons.1 hx with rfl | hx
        · omega
        · have := h1 x hx; omega
      · cases k with
        | zero =>
          cases hy
          exact h1 x (List.mem_of_getElem? hx)
        | succ k => exact h2 k x y hy hx
theorem gapL_len : ∀ (L : List Int) (nx : Int), (gapL nx L).length = L.length
  | [], _ => rfl
  | n :: r, _ => by simp [gapL, gapL_len r]
theorem gapL_at : ∀ (L : List Int) (nx : Int) (k : Nat) (x : Int), L[k]? = some x → (gapL nx L)[k]? = some (x - (match k with | 0 => nx | j + 1 => (L[j]?.getD 0) + 1)) := by
  intro L
  induction L with
  | nil => intro nx k x h; cases h
  | cons n r ih =>
    intro nx k x h
    cases k with
    | zero => cases h; rfl
    | succ k =>
      have := ih (n + 1) k x h
      show (gapL (n + 1) r)[k]? = _
      rw [this]
      cases k with
      | zero => rfl
      | succ k => rfl
def P64 (u : Nat) : ByteArray := if u < 18446744073709551616 then encB u else ⟨#[]⟩
theorem P64_size (u : Nat) : (P64 u).size ≤ 10 := by
  unfold P64
  split
  · rename_i h
    rw [encB_size]
    exact enc_len10 h
  · show (0 : Nat) ≤ 10
    omega
theorem P64_of {u : Nat} (h : u < 18446744073709551616) : (P64 u).data.toList = enc u := by
  unfold P64
  rw [if_pos h]
  rfl
theorem enc_at (A : Option Addr) (c : Nat) (L : List Int) (w : World) (hL : Lies encI 1 w A L) (hc : L.length ≤ c) (hl : L.length ≤ 1000000) (hx : ∀ x ∈ L, -9223372036854775808 ≤ x ∧ x ≤ 9223372036854775807) :
    Calls Try.prog 35 #[.slice A L.length c] w fun e w' => e = .returned (.tuple #[.string ⟨(encC L).1.toArray⟩, .int .i64 (encC L).2]) ∧ Below w.heap.size w w' := by
  have hcheck := check_at A c L w hL hl
  unfold encC
  by_cases h0 : chkG L = 0
  · rw [if_pos h0]
    rw [h0] at hcheck
    have hr : rises (-1) L = true := by
      unfold chkG at h0
      split at h0
      · assumption
      · cases h0
    obtain ⟨r1, r2⟩ := rises_lt L (-1) hr
    have hgap : ∀ k (h : k < L.length), 0 ≤ wrap64 (L[k]?.getD 0 - nextW L k) ∧ wrap64 (L[k]?.getD 0 - nextW L k) ≤ 9223372036854775807 ∧ (gapL 0 L)[k]? = some (wrap64 (L[k]?.getD 0 - nextW L k)) := by
      intro k hk
      have hxk : L[k]? = some L[k] := List.getElem?_eq_getElem hk
      rw [gapL_at L 0 k _ hxk, hxk]
      have hm := List.mem_of_getElem? hxk
      have a1 := r1 _ hm
      have a2 := hx _ hm
      cases k with
      | zero =>
        simp only [Option.getD_some, nextW]
        have e : wrap64 (L[0] - 0) = L[0] := by unfold wrap64; omega
        rw [e]
        exact ⟨by omega, by omega, by simp⟩
      | succ j =>
        have hxj : L[j]? = some (L[j]'(by omega)) := List.getElem?_eq_getElem (by omega)
        have a3 := r2 j _ _ hxj hxk
        have a4 := r1 _ (List.mem_of_getElem? hxj)
        simp only [Option.getD_some, nextW, hxj]
        have e1 : wrap64 (L[j] + 1) = L[j] + 1 := by unfold wrap64; omega
        rw [e1]
        have e2 : wrap64 (L[j + 1] - (L[j] + 1)) = L[j + 1] - (L[j] + 1) := by unfold wrap64; omega
        rw [e2]
        exact ⟨by omega, by omega, rfl⟩
    obtain ⟨f, hf⟩ : ∃ f : Nat → Gap, ∀ k, k < L.length → (f k).1 = wrap64 (L[k]?.getD 0 - nextW L k) :=
      ⟨fun k => if h : k < L.length then ⟨_, (hgap k h).1, (hgap k h).2.1⟩ else ⟨0, by omega, by omega⟩, fun k hk => by simp [hk]⟩
    have hby : bytesL P64 L.length (upto f L.length) = encL L := by
      unfold bytesL encL
      rw [P64_of (by omega)]
      congr 1
      have e : (upto f L.length).map (fun x : Gap => x.1) = gapL 0 L := by
        apply List.ext_getElem?
        intro k
        unfold upto
        rw [List.getElem?_map, List.getElem?_map]
        by_cases hk : k < L.length
        · rw [(hgap k hk).2.2]
          simp [hk, hf k hk]
        · rw [List.getElem?_eq_none (by simpa using hk), List.getElem?_eq_none (by rw [gapL_len]; omega)]
          rfl
      rw [← e, List.flatMap_map]
      congr 1
      funext x
      have := x.2
      rw [P64_of (by omega)]
    have := encode_in P64 P64_size A c L w hc (by omega) f hf (fun j hj => ?_) (hcheck.mono fun e w' h => ⟨h.1, 0, h.2⟩) (fun x W => ?_)
    · rw [hby] at this
      exact callsIn_wide.1 this
    · obtain ⟨b, o, rfl, hb, hcl⟩ := lies1 hL (List.getElem?_eq_getElem hj)
      have e : (⟨b, o, none⟩ : Addr).add j = ⟨b, o + j, none⟩ := by
        unfold Addr.add
        split
        · rename_i e; subst e; rfl
        · rfl
      refine ⟨⟨b, o, none⟩, rfl, by rw [e]; exact hb, by rw [e, hcl, List.getElem?_eq_getElem hj]; rfl⟩
    · have hx2 := x.2
      have := putx_at x.1 W (by omega) (by omega)
      unfold putC at this
      rw [if_neg (by omega)] at this
      unfold P64
      rw [if_pos (by omega)]
      exact this
  · rw [if_neg h0]
    exact callsIn_wide.1 (encode_bad_in A c L.length _ h0 w (hcheck.mono fun e w' h => ⟨h.1, 0, h.2⟩))
end Go.Proofs.Ytdlmkdldmiiaiaa.E
