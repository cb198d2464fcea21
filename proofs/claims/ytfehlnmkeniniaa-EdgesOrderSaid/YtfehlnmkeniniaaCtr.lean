/- What each function answers, in one form. Conditions: the lists lie readable. -/
import Derived.Test.YtfehlnmkeniniaaDoe
namespace Go.Proofs.Ytfehlnmkeniniaa.E
open Go.RowKit Go.Sort Go.Shelf
open Go.Proofs.Ytfehlnmkeniniaa.Ma
set_option linter.unusedVariables false
set_option linter.unusedSimpArgs false
section
variable {A A2 : Option Addr} {c c2 : Nat} {n v : Int} {L : List Ed} {w : World}
theorem c_norm {R : Int × List Ed} (hR : normC n L = R) (hL : Lies enc2 2 w A L) (hlen : L.length ≤ 500000) : Calls Try.prog 8 #[.int .i64 n, .slice A L.length c] w fun e w' => ∃ A' c', e = .returned (.tuple #[.slice A' R.2.length c', .int .i64 R.1]) ∧ Lies enc2 2 w' A' R.2 ∧ Below w.heap.size w w' :=
  (normal_at A c n L w hL (by omega)).mono fun e w' ⟨v', he, hr, hb⟩ => by
    rw [hR] at he hr
    obtain ⟨A', c', rfl, _, _⟩ := row_open enc2_len hr
    exact ⟨A', c', he, row_lies enc2_len hr, hb⟩
theorem c_refnorm {R : Int × List Ed} (hR : normC n L = R) (hL : Lies enc2 2 w A L) (hlen : L.length ≤ 500000) : Calls Try.prog 9 #[.int .i64 n, .slice A L.length c] w fun e w' => ∃ A' c', e = .returned (.tuple #[.slice A' R.2.length c', .int .i64 R.1]) ∧ Lies enc2 2 w' A' R.2 ∧ Below w.heap.size w w' :=
  (refnorm_at A c n L w hL hlen).mono fun e w' ⟨v', he, hr, hb⟩ => by
    rw [hR] at he hr
    obtain ⟨A', c', rfl, _, _⟩ := row_open enc2_len hr
    exact ⟨A', c', he, row_lies enc2_len hr, hb⟩
theorem c_deg {R : List Int × List Int} (hR : degC n L = R) (hL : Lies enc2 2 w A L) (hlen : L.length ≤ 500000) : Calls Try.prog 11 #[.int .i64 n, .slice A L.length c] w fun e w' => ∃ A1 c1 A2 c2, e = .returned (.tuple #[.slice A1 R.1.length c1, .slice A2 R.2.length c2]) ∧ Lies encI 1 w' A1 R.1 ∧ Lies encI 1 w' A2 R.2 ∧ Below w.heap.size w w' :=
  (deg_at A c n L w hL hlen).mono fun e w' ⟨A1, c1, A2, c2, he, h1, h2, hb⟩ => by
    rw [hR] at he h1 h2
    exact ⟨A1, c1, A2, c2, he, row_lies encI_len h1, row_lies encI_len h2, hb⟩
theorem c_refdeg {R : List Int × List Int} (hR : degC n L = R) (hL : Lies enc2 2 w A L) (hlen : L.length ≤ 500000) : Calls Try.prog 12 #[.int .i64 n, .slice A L.length c] w fun e w' => ∃ A1 c1 A2 c2, e = .returned (.tuple #[.slice A1 R.1.length c1, .slice A2 R.2.length c2]) ∧ Lies encI 1 w' A1 R.1 ∧ Lies encI 1 w' A2 R.2 ∧ Below w.heap.size w w' :=
  (refdeg_at A c n L w hL hlen).mono fun e w' ⟨A1, c1, A2, c2, he, h1, h2, hb⟩ => by
    rw [hR] at he h1 h2
    exact ⟨A1, c1, A2, c2, he, row_lies encI_len h1, row_lies encI_len h2, hb⟩
theorem c_out {R : List Int} (hR : outL L v = R) (hL : Lies enc2 2 w A L) (hlen : L.length ≤ 500000) : Calls Try.prog 14 #[.slice A L.length c, .int .i64 v] w fun e w' => ∃ A' c', e = .returned (.slice A' R.length c') ∧ Lies encI 1 w' A' R ∧ Below w.heap.size w w' :=
  (out_at A c v L w hL hlen).mono fun e w' ⟨A', c', he, hr, hb⟩ => by
    rw [hR] at he hr
    exact ⟨A', c', he, row_lies encI_len hr, hb⟩
theorem c_refout {R : List Int} (hR : outL L v = R) (hL : Lies enc2 2 w A L) (hlen : L.length ≤ 500000) : Calls Try.prog 15 #[.slice A L.length c, .int .i64 v] w fun e w' => ∃ A' c', e = .returned (.slice A' R.length c') ∧ Lies encI 1 w' A' R ∧ Below w.heap.size w w' :=
  (refout_at A c v L w hL hlen).mono fun e w' ⟨A', c', he, hr, hb⟩ => by
    rw [hR] at he hr
    exact ⟨A', c', he, row_lies encI_len hr, hb⟩
theorem c_rev {R : List Ed} (hR : rvs L = R) (hL : Lies enc2 2 w A L) (hlen : L.length ≤ 500000) : Calls Try.prog 16 #[.slice A L.length c] w fun e w' => ∃ A' c', e = .returned (.slice A' R.length c') ∧ Lies enc2 2 w' A' R ∧ Below w.heap.size w w' :=
  (reverse_at A c L w hL hlen).mono fun e w' ⟨A', c', he, hr, hb⟩ => by
    have hl := rvs_len L
    rw [← hl, hR] at he hr
    exact ⟨A', c', he, row_lies enc2_len hr, hb⟩
theorem c_refrev {R : List Ed} (hR : rvs L = R) (hL : Lies enc2 2 w A L) (hlen : L.length ≤ 500000) : Calls Try.prog 17 #[.slice A L.length c] w fun e w' => ∃ A' c', e = .returned (.slice A' R.length c') ∧ Lies enc2 2 w' A' R ∧ Below w.heap.size w w' :=
  (refrev_at A c L w hL hlen).mono fun e w' ⟨A', c', he, hr, hb⟩ => by
    have hl := rvs_len L
    rw [← hl, hR] at he hr
    exact ⟨A', c', he, row_lies enc2_len hr, hb⟩
theorem c_same (h1 : Lies enc2 2 w A L) (h2 : Lies enc2 2 w A2 L) (hlen : L.length ≤ 1000000) : Calls Try.prog 10 #[.slice A L.length c, .slice A2 L.length c2] w fun e w' => e = .returned (.bool true) ∧ Below w.heap.size w w' :=
  (same_at A A2 c c2 L w h1 h2 hlen).mono fun e w' ⟨he, m, hw⟩ => ⟨he, by rw [hw]; exact below_drew w m⟩
theorem c_sameI {L : List Int} (h1 : Lies encI 1 w A L) (h2 : Lies encI 1 w A2 L) (hlen : L.length ≤ 1000000) : Calls Try.prog 13 #[.slice A L.length c, .slice A2 L.length c2] w fun e w' => e = .returned (.bool true) ∧ Below w.heap.size w w' :=
  (sameI_at A A2 c c2 L w h1 h2 hlen).mono fun e w' ⟨he, m, hw⟩ => ⟨he, by rw [hw]; exact below_drew w m⟩
end
theorem lies_pre {w : World} {A : Option Addr} {L M : List Ed} (h : Lies enc2 2 w A (L ++ M)) : Lies enc2 2 w A L := by
  have := h.take L.length
  rwa [List.take_left] at this
theorem lies_to {w w' : World} {A : Option Addr} {L : List Ed} (h : Lies enc2 2 w A L) (hb : Below w.heap.size w w') : Lies enc2 2 w' A L := h.below hb (Nat.le_refl _)
theorem liesI_to {w w' : World} {A : Option Addr} {L : List Int} (h : Lies encI 1 w A L) (hb : Below w.heap.size w w') : Lies encI 1 w' A L := h.below hb (Nat.le_refl _)
/-- The list at an address, as an append wants it. -/
theorem lies_src {w : World} {ad : Addr} {L : List Ed} (h : Lies enc2 2 w (some ad) L) {W : World} (hb : Below w.heap.size w W) : ∀ j u, (cellsK enc2 L)[j]? = some u → W.cell? (ad.add j) = some u := by
  cases hL : L with
  | nil => intro j u hu; simp [cellsK] at hu
  | cons y r =>
    rw [hL] at h
    obtain ⟨b, o, e, _, _⟩ := h 0 y rfl
    cases e
    have := lies_news (n := (y :: r).length) enc2_len h hb 0
    rw [List.drop_zero, List.take_length, Nat.zero_mul, Nat.add_zero] at this
    exact this
theorem normC_len (n : Int) (L : List Ed) : (normC n L).2.length ≤ L.length := by
  unfold normC
  have := nrm_len L
  split
  · simp
  · split
    · simp
    · exact this
theorem degC_len (n : Int) (L : List Ed) : (degC n L).1.length ≤ 256 ∧ (degC n L).2.length ≤ 256 := by
  unfold degC
  split
  · rw [dO_len, dI_len]; omega
  · simp
end Go.Proofs.Ytfehlnmkeniniaa.E
