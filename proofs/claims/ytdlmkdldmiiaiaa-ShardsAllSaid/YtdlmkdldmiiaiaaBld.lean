/- A strings.Builder, and what its String leaves as it was. Conditions: those that each theorem names. -/
import Derived.Test.YtdlmkdldmiiaiaaSea
import Derived.Test.YtdlmkdldmiiaiaaLoo
namespace Go.Proofs.Ytdlmkdldmiiaiaa.E
open Go.RowKit Go.Sort Go.Shelf
open Go.Proofs.Ytdlmkdldmiiaiaa.Ma Go.Proofs.Ytdlmkdldmiiaiaa.By Go.Proofs.Ytdlmkdldmiiaiaa.Enc
set_option linter.unusedVariables false
set_option linter.unusedSimpArgs false
/-- The builder in block b holds these bytes, in a row in block g. -/
structure Bld (B b g : Nat) (l : List UInt8) (w : World) : Prop where
  hb : B ≤ b
  hg : B ≤ g
  ne : g ≠ b
  row : ∃ p cap, (p = .pointer none ∨ p = .pointer (some ⟨b, 0, none⟩)) ∧ w.heap[b]? = some (.cells #[p, .slice (some ⟨g, 0, none⟩) l.length cap] 75 (0, 0)) ∧ w.ownsRowF B 5 1 (.slice (some ⟨g, 0, none⟩) l.length cap) l.length (Lib.byteCells l)
theorem bld_of {B b : Nat} {l : List UInt8} {w : World} (h : Lib.IsBuilderF 75 5 B b (Lib.byteCells l) w) (hl : l ≠ []) : ∃ g, Bld B b g l w := by
  obtain ⟨p, hp, hB, v, hb, hown, hne⟩ : ∃ p, (p = .pointer none ∨ p = .pointer (some ⟨b, 0, none⟩)) ∧ Lib.BuilderAtF 75 5 B b p (Lib.byteCells l) w := by
    rcases h with h | h
    · exact ⟨_, .inl rfl, h⟩
    · exact ⟨_, .inr rfl, h⟩
  rw [Lib.byteCells_length] at hown
  have hown' := hown
  rcases hown.2 with ⟨_, h0⟩ | ⟨g, cap, cur, fz, rfl, hg, r⟩
  · exact absurd (List.length_eq_zero_iff.1 h0) hl
  · exact ⟨g, hB, hg, fun e => hne (by simp [Value.ownBlock, e]), p, cap, hp, hb, hown'⟩
theorem Bld.fr {B b g : Nat} {l : List UInt8} {w w' : World} (h : Bld B b g l w) {S : Nat → Prop} (hf : Fr S w w') (hb : ¬ S b) (hg : ¬ S g) : Bld B b g l w' := by
  obtain ⟨p, cap, hp, h1, h2⟩ := h.row
  refine ⟨h.hb, h.hg, h.ne, p, cap, hp, hf.keep h1 hb, h2.1, ?_⟩
  rcases h2.2 with ⟨e, h0⟩ | ⟨g', cap', cur, fz, e, hg', hc, r⟩
  · cases e
  · cases e
    exact .inr ⟨g, cap, cur, fz, rfl, hg', hf.keep hc hg, r⟩
theorem Bld.to {B b g : Nat} {l : List UInt8} {w w' : World} (h : Bld B b g l w) (hb : Below w.heap.size w w') : Bld B b g l w' := h.fr (Fr.of_below hb) (fun e => e) (fun e => e)
theorem Bld.lt {B b g : Nat} {l : List UInt8} {w : World} (h : Bld B b g l w) : g < w.heap.size ∧ b < w.heap.size := by
  obtain ⟨p, cap, hp, h1, h2⟩ := h.row
  refine ⟨?_, lt_of_heap h1⟩
  rcases h2.2 with ⟨e, h0⟩ | ⟨g', cap', cur, fz, e, hg', hc, r⟩
  · cases e
  · cases e
    exact lt_of_heap hc
theorem freeze_fr (w : World) (g n : Nat) : Fr (fun k => k = g) w (w.freeze ⟨g, 0, none⟩ n) := by
  unfold World.freeze
  split
  · exact Fr.refl _ _
  · exact ⟨rfl, rfl, rfl, by simp, fun k hk hs => by
      simp only [Array.getElem?_modify]
      rw [if_neg (fun e => hs e.symm)]⟩
set_option maxRecDepth 100000 in
set_option maxHeartbeats 1000000 in
/-- String: only the row of bytes is frozen. -/
theorem bstr2 (B b g : Nat) (l : List UInt8) (w : World) (h : Bld B b g l w) (h0 : l ≠ []) :
    Calls Try.prog 41 #[.pointer (some ⟨b, 0, none⟩)] w fun e w' => e = .returned (.string (bytesB l)) ∧ Bld B b g l w' ∧ Fr (fun k => k = g) w w' := by
  obtain ⟨p, cap, hp, hbk, hown⟩ := h.row
  have hl0 : l.length ≠ 0 := by simpa using h0
  have hb := h.hb
  have hne := h.ne
  obtain ⟨cur, fz, hbg, hg, hfz, hnc, hcm, hcs, htake⟩ : ∃ cur fz, B ≤ g ∧ w.heap[g]? = some (.cells cur 5 fz) ∧ fz.2 ≤ l.length * 1 ∧ l.length ≤ cap ∧ cap ≤ maxLen ∧ cur.size = cap * 1 ∧ cur.toList.take (l.length * 1) = Lib.byteCells l := by
    rcases hown.2 with ⟨hv, hz⟩ | ⟨g', cap', cur, fz, hv, r⟩
    · exact absurd hz hl0
    · cases hv
      exact ⟨cur, fz, r⟩
  have c1 : w.drew.cell? ⟨b, 1, none⟩ = some (.slice (some ⟨g, 0, none⟩) l.length cap) := by
    have : w.drew.heap[b]? = some (.cells #[p, .slice (some ⟨g, 0, none⟩) l.length cap] 75 (0, 0)) := hbk
    rw [Lib.cell_of_heap this]; rfl
  have hSD : (Builtin.unsafeSliceData_ #[52] 116 #[.slice (some ⟨g, 0, none⟩) l.length cap]).run Try.prog w.drew = .ok (.pointer (some ⟨g, 0, none⟩)) w.drew :=
    Lib.run_unsafeSliceData_row _ _ _ _ _ _ (by omega)
  have hUS : (Builtin.unsafeString_ #[116, 3] 9 #[.pointer (some ⟨g, 0, none⟩), .int .i64 l.length]).run Try.prog w.drew = .ok (.string ⟨l.toArray⟩) (w.drew.freeze ⟨g, 0, none⟩ l.length) := by
    refine Lib.run_unsafeString_row w.drew 116 3 9 5 Try.underlying116 Try.Builder_Extra_169.cellsByte g cur.size (by have hg' : w.drew.heap[g]? = some (.cells cur 5 fz) := hg; simp [World.shape?, hg']) l h0 (by omega) (by unfold maxLen at hcm; omega) ?_
    intro j x hx
    have := hown.cells (g := g) rfl j (.int .u8 x.toNat) (by simp [Lib.byteCells, hx])
    exact this
  have hkeep : Bld B b g l (w.drew.freeze ⟨g, 0, none⟩ l.length) := by
    have hA : Lib.BuilderAtF 75 5 B b p (Lib.byteCells l) w.drew := ⟨h.hb, _, hbk, by rw [Lib.byteCells_length]; exact hown, by simp [Value.ownBlock, h.ne]⟩
    have hF := hA.froze (g := g) (cap := cap) (by rw [Lib.byteCells_length]; exact c1)
    rw [Lib.byteCells_length] at hF
    obtain ⟨_, v, hbv, hownv, _⟩ := hF
    have hbb : (w.drew.freeze ⟨g, 0, none⟩ l.length).heap[b]? = some (.cells #[p, .slice (some ⟨g, 0, none⟩) l.length cap] 75 (0, 0)) := (freeze_fr w.drew g l.length).keep hbk (fun e => h.ne e.symm)
    rw [hbb] at hbv
    cases hbv
    rw [Lib.byteCells_length] at hownv
    exact ⟨h.hb, h.hg, h.ne, p, cap, hp, hbb, hownv⟩
  have HK := Lib.hid hkeep
  have HF := Lib.hid ((Fr.drewN (fun k => k = g) w 1).trans (freeze_fr w.drew g l.length))
  have mixed : Try.prog.follows Departure.mixedOrders = true := by kernel_rfl
  have u116 := run_underlying Try.underlying116
  have u52 := run_underlying Try.underlying52
  have u3 := run_underlying Try.underlying3
  have u9 := run_underlying Try.underlying9
  have u75 := run_underlying Try.underlying75
  clear hkeep hown hbk hg hfz hnc hcm hcs htake h hb hbg hp
  go_enter Try.func41, Try.ntmps41
  go_wp2
  go_region_o
  all_goals (go_wp2; go_ret; exact ⟨rfl, HK.out, HF.out⟩)
end Go.Proofs.Ytdlmkdldmiiaiaa.E
