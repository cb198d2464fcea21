/- Files by names, plain. Conditions: none. -/
import Derived.Test.YtnpdnnaemfdinaaLay
namespace Go.Proofs.Ytnpdnnaemfdinaa.F
open Go.RowKit Go.Maps Go.Sort Go.Shelf
open Go.Proofs.Ytnpdnnaemfdinaa.Ma
set_option linter.unusedVariables false
set_option linter.unusedSimpArgs false
abbrev De := ByteArray × List ByteArray
def dn (L : List En) : List De := L.map fun p => (p.1, p.2.2)
def lookD (D : List De) (s : ByteArray) : List ByteArray := match D.find? (fun p => nm p.1 == nm s) with | some p => p.2 | none => []
def insD (x : De) : List De → List De
  | [] => [x]
  | y :: r => if bytesBefore (nm x.1) (nm y.1) = true then x :: y :: r else y :: insD x r
def delD (s : ByteArray) (D : List De) : List De := D.filter (fun p => !(nm p.1 == nm s))
def setD (s : ByteArray) (P : List ByteArray) (D : List De) : List De := if P = [] then delD s D else insD (s, P) (delD s D)
def pagesD (D : List De) : Nat := (D.map fun p => p.2.length).sum
theorem lookD_dn (L : List En) (s : ByteArray) : lookD (dn L) s = (look L s).2 := by
  unfold lookD look dn
  rw [List.find?_map]
  have : ((fun p : De => nm p.1 == nm s) ∘ fun p : En => (p.1, p.2.2)) = fun p : En => nm p.1 == nm s := rfl
  rw [this]
  cases L.find? (fun p => nm p.1 == nm s) <;> rfl
theorem dn_ins (x : En) (L : List En) : dn (ins x L) = insD (x.1, x.2.2) (dn L) := by
  unfold dn
  induction L with
  | nil => rfl
  | cons y r ih =>
    simp only [ins, List.map_cons, insD]
    by_cases h : bytesBefore (nm x.1) (nm y.1) = true
    · rw [if_pos h, if_pos h]; rfl
    · rw [if_neg h, if_neg h, List.map_cons, ih]
theorem dn_del (s : ByteArray) (L : List En) : dn (del s L) = delD s (dn L) := by
  unfold dn delD del
  rw [List.filter_map]
  rfl
theorem pages_dn (L : List En) : pagesD (dn L) = pagesOf L := by
  unfold pagesD dn pagesOf
  rw [List.map_map]
  rfl
theorem dn_nil {L : List En} (h : dn L = []) : L = [] := by simpa [dn] using h
/-- What Write answers, and the files then. -/
def writeF (room : Int) (D : List De) (s : ByteArray) (P : List ByteArray) : Int × List De :=
  if (!nameOk s || P.any fun x => !decide (x.size = 128)) = true then (2, D)
  else if room - pagesD D + (lookD D s).length < P.length then (61, D)
  else (0, setD s P D)
/-- What Put answers, and the files then. -/
def putF (room : Int) (D : List De) (s : ByteArray) (i : Int) (x : ByteArray) : Int × List De :=
  if nameOk s = false ∨ i < 0 ∨ (lookD D s).length < i ∨ x.size ≠ 128 then (2, D)
  else if i < (lookD D s).length then (0, setD s ((lookD D s).set i.toNat x) D)
  else if pagesD D = room then (61, D)
  else (0, setD s (lookD D s ++ [x]) D)
def thereD (D : List De) (s : ByteArray) (i : Int) : Int := if 0 ≤ i ∧ i < (lookD D s).length then 0 else 4
def readD (left : Int) (D : List De) (s : ByteArray) (i : Int) : ByteArray × Int × Int :=
  if thereD D s i = 4 then (⟨#[]⟩, 4, left)
  else if left = 0 then (⟨#[]⟩, 60, -1)
  else ((lookD D s).getD i.toNat ⟨#[]⟩, 0, if left = -1 then -1 else left - 1)
theorem there_dn (L : List En) (s : ByteArray) (i : Int) : thereC L s i = thereD (dn L) s i := by
  unfold thereC thereD
  rw [lookD_dn]
theorem read_dn (left : Int) (L : List En) (s : ByteArray) (i : Int) : readF left L s i = readD left (dn L) s i := by
  unfold readF readD
  rw [lookD_dn, there_dn]
def removeF (D : List De) (s : ByteArray) : Int × List De := if lookD D s = [] then (4, D) else (0, delD s D)
def flipB (x : ByteArray) (at_ : Nat) (u : UInt8) : ByteArray := ⟨x.data.setIfInBounds at_ (x.data.getD at_ 0 ^^^ u)⟩
def flipF (D : List De) (s : ByteArray) (i at_ : Int) (u : UInt8) : Int × List De :=
  if thereD D s i = 4 then (4, D)
  else if at_ < 0 ∨ 128 ≤ at_ then (2, D)
  else (0, setD s ((lookD D s).set i.toNat (flipB ((lookD D s).getD i.toNat ⟨#[]⟩) at_.toNat u)) D)
def failF (left n : Int) : Int × Int := if n < 0 then (2, left) else (0, n)
/-- A file system that has these files; none of its blocks is one of X. -/
structure FsX (X : Nat → Prop) (w : World) (b bm : Nat) (room left : Int) (D : List De) : Prop where
  ex : ∃ L, FsAt 0 w b bm room left L ∧ (∀ p ∈ L, ∀ g, p.2.1.ownBlock = some g → ¬ X g) ∧ dn L = D
  nb : ¬ X b
  nbm : ¬ X bm
  low : ∀ k, X k → k < w.heap.size
  rm : (pagesD D : Int) ≤ room ∧ room ≤ 4096
  lf : -1 ≤ left ∧ left ≤ 9223372036854775807
section
variable {X : Nat → Prop} {w w' : World} {b bm : Nat} {room left : Int} {D : List De}
theorem FsX.below (h : FsX X w b bm room left D) (hb : Below w.heap.size w w') : FsX X w' b bm room left D := by
  obtain ⟨L, h1, h2, h3⟩ := h.ex
  exact ⟨⟨L, h1.below hb, h2, h3⟩, h.nb, h.nbm, fun k hk => Nat.lt_of_lt_of_le (h.low k hk) hb.size, h.rm, h.lf⟩
theorem FsX.drewN (n : Nat) (h : FsX X w b bm room left D) : FsX X (w.drewN n) b bm room left D := by
  obtain ⟨L, h1, h2, h3⟩ := h.ex
  exact ⟨⟨L, h1.drewN n, h2, h3⟩, h.nb, h.nbm, h.low, h.rm, h.lf⟩
/-- What has come since is not the file system's. -/
theorem FsX.widen (h : FsX X w b bm room left D) (hb : Below w.heap.size w w') : FsX (fun k => X k ∨ (w.heap.size ≤ k ∧ k < w'.heap.size)) w' b bm room left D := by
  obtain ⟨L, h1, h2, h3⟩ := h.ex
  refine ⟨⟨L, h1.below hb, fun p hp g hg => ?_, h3⟩, ?_, ?_, fun k hk => ?_, h.rm, h.lf⟩
  · rintro (hx | hx)
    · exact h2 p hp g hg hx
    · have := (own_lt (h1.rows p hp).1 hg).1
      omega
  · rintro (hx | hx)
    · exact h.nb hx
    · have := h1.lt
      omega
  · rintro (hx | hx)
    · exact h.nbm hx
    · have := h1.own.lt
      omega
  · rcases hk with hk | hk
    · exact Nat.lt_of_lt_of_le (h.low k hk) hb.size
    · exact hk.2
/-- Fewer blocks are kept away. -/
theorem FsX.narrow {Y : Nat → Prop} (h : FsX X w b bm room left D) (hY : ∀ k, Y k → X k) : FsX Y w b bm room left D := by
  obtain ⟨L, h1, h2, h3⟩ := h.ex
  exact ⟨⟨L, h1, fun p hp g hg hy => h2 p hp g hg (hY g hy), h3⟩, fun hy => h.nb (hY _ hy), fun hy => h.nbm (hY _ hy), fun k hk => h.low k (hY k hk), h.rm, h.lf⟩
theorem FsX.c0 (h : FsX X w b bm room left D) : w.cell? ⟨b, 0, none⟩ = some (.int .i64 room) := by obtain ⟨L, h1, _⟩ := h.ex; exact h1.c0
theorem FsX.c2 (h : FsX X w b bm room left D) : w.cell? ⟨b, 2, none⟩ = some (.map (some bm)) := by obtain ⟨L, h1, _⟩ := h.ex; exact h1.c2
theorem FsX.small (h : FsX X w b bm room left D) : pagesD D ≤ 4096 := by have := h.rm; omega
theorem FsX.look_le (h : FsX X w b bm room left D) (s : ByteArray) : (lookD D s).length ≤ 4096 := by
  obtain ⟨L, h1, _, rfl⟩ := h.ex
  rw [lookD_dn]
  exact (h1.found s).2
theorem x_pages (s : ByteArray) (hs : s.size ≤ maxLen) (h : FsX X w b bm room left D) : Calls Try.prog 26 #[.pointer (some ⟨b, 0, none⟩), .string s] w fun e w' => e = .returned (.int .i64 (lookD D s).length) ∧ w = w' := by
  obtain ⟨L, h1, _, rfl⟩ := h.ex
  rw [lookD_dn]
  exact pages_at s hs h1
theorem x_used (h : FsX X w b bm room left D) : Calls Try.prog 18 #[.pointer (some ⟨b, 0, none⟩)] w fun e w' => e = .returned (.int .i64 (pagesD D)) ∧ Below w.heap.size w w' := by
  obtain ⟨L, h1, _, rfl⟩ := h.ex
  rw [pages_dn]
  exact used_at h1
theorem x_names (h : FsX X w b bm room left D) : Calls Try.prog 24 #[.pointer (some ⟨b, 0, none⟩)] w fun e w' => ∃ A c, e = .returned (.slice A D.length c) ∧ w'.ownsRow w.heap.size 9 1 (.slice A D.length c) (D.map (·.1)).length (cellsK encS (D.map (·.1))) ∧ Below w.heap.size w w' := by
  obtain ⟨L, h1, _, rfl⟩ := h.ex
  refine (names_at h1).mono ?_
  rintro e w' ⟨v, rfl, hr, _, hb⟩
  have hr2 : w'.ownsRow w.heap.size 9 1 v ((dn L).map (·.1)).length (cellsK encS ((dn L).map (·.1))) := by
    rw [cellsS]
    simpa [dn, List.map_map, Function.comp_def] using hr
  obtain ⟨A, c, rfl, _, _⟩ := row_open encS_len hr2
  have e : ((dn L).map (·.1)).length = (dn L).length := by simp
  refine ⟨A, c, by rw [e], ?_, hb⟩
  rw [← e]
  exact hr2
theorem x_there (s : ByteArray) (i : Int) (hs : s.size ≤ maxLen) (h : FsX X w b bm room left D) : Calls Try.prog 43 #[.pointer (some ⟨b, 0, none⟩), .string s, .int .i64 i] w fun e w' => e = .returned (.int .i64 (thereD D s i)) ∧ w = w' := by
  obtain ⟨L, h1, _, rfl⟩ := h.ex
  rw [← there_dn]
  exact there_at s i hs h1
theorem fr_b (h : FsX X w b bm room left D) (hf : Fr (fun k => k = b) w w') : Fr (fun k => ¬ X k) w w' := hf.mono (fun k e => by subst e; exact h.nb)
theorem x_fail (n : Int) (hn : n ≤ 9223372036854775807) (h : FsX X w b bm room left D) : Calls Try.prog 13 #[.pointer (some ⟨b, 0, none⟩), .int .i64 n] w fun e w' => e = .returned (.int .i64 (failF left n).1) ∧ FsX X w' b bm room (failF left n).2 D ∧ Fr (fun k => ¬ X k) w w' := by
  obtain ⟨L, h1, h2, h3⟩ := h.ex
  unfold failF
  by_cases h0 : n < 0
  · rw [if_pos h0]
    refine (fail_bad n h0 h1).mono ?_
    rintro e w' ⟨rfl, rfl⟩
    exact ⟨rfl, h, Fr.refl _ _⟩
  · rw [if_neg h0]
    refine (fail_at n (by omega) h1).mono ?_
    rintro e w' ⟨rfl, h4, hf⟩
    exact ⟨rfl, ⟨⟨L, h4, h2, h3⟩, h.nb, h.nbm, fun k hk => Nat.lt_of_lt_of_le (h.low k hk) hf.size, h.rm, by dsimp only; omega⟩, fr_b h hf⟩
theorem readD_left {left : Int} (hl : -1 ≤ left ∧ left ≤ 9223372036854775807) (D : List De) (s : ByteArray) (i : Int) : -1 ≤ (readD left D s i).2.2 ∧ (readD left D s i).2.2 ≤ 9223372036854775807 := by
  unfold readD
  split
  · exact hl
  · split
    · exact ⟨by decide, by decide⟩
    · dsimp only
      split <;> omega
theorem x_read (s : ByteArray) (i : Int) (hs : s.size ≤ maxLen) (h : FsX X w b bm room left D) : Calls Try.prog 14 #[.pointer (some ⟨b, 0, none⟩), .string s, .int .i64 i] w fun e w' => e = .returned (.tuple #[.string (readD left D s i).1, .int .i64 (readD left D s i).2.1]) ∧ FsX X w' b bm room (readD left D s i).2.2 D ∧ Fr (fun k => ¬ X k) w w' := by
  obtain ⟨L, h1, h2, rfl⟩ := h.ex
  have hle := readD_left h.lf (dn L) s i
  rw [← read_dn] at hle ⊢
  refine (read_at s i hs h1 h.lf).mono ?_
  rintro e w' ⟨rfl, h4, hf⟩
  exact ⟨rfl, ⟨⟨L, h4, h2, rfl⟩, h.nb, h.nbm, fun k hk => Nat.lt_of_lt_of_le (h.low k hk) hf.size, h.rm, hle⟩, fr_b h hf⟩
end
end Go.Proofs.Ytnpdnnaemfdinaa.F
