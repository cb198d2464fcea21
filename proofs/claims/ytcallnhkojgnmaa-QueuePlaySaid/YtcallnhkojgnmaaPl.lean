/- QueuePlay: the queue and the document's beside each other. Conditions: those that each theorem names. -/
import Derived.Test.YtcallnhkojgnmaaRi
namespace Go.Proofs.Ytcallnhkojgnmaa.Q
open Go.RowKit Go.Sort Go.Shelf
open Go.Proofs.Ytcallnhkojgnmaa.Ma
set_option linter.unusedVariables false
set_option linter.unusedSimpArgs false
section
variable {W0 w w' : World} {b rb B : Nat} {L M : List It} {v rv : Value}
theorem apart (h : St W0 w b L v) (hr : RefAt B w rb M rv) : rb ≠ b ∧ (∀ g, v.ownBlock = some g → g ≠ rb) ∧ ∀ g, rv.ownBlock = some g → g ≠ b ∧ v.ownBlock ≠ some g := by
  have h1 := h.lies.1
  have h2 := hr.1
  refine ⟨?_, fun g hg => ?_, fun g hg => ⟨?_, fun e => ?_⟩⟩
  · rintro rfl
    rw [h1] at h2
    cases h2
  · rintro rfl
    obtain ⟨cur, hc⟩ := own_block h.lies.2 hg
    rw [hc] at h2
    cases h2
  · rintro rfl
    obtain ⟨cur, hc⟩ := own_block hr.2 hg
    rw [hc] at h1
    cases h1
  · obtain ⟨cur, hc⟩ := own_block hr.2 hg
    obtain ⟨cur2, hc2⟩ := own_block h.lies.2 e
    rw [hc] at hc2
    cases hc2
theorem ref_keeps (h : St W0 w b L v) (hr : RefAt B w rb M rv) (hf : Fr (fun k => k = b ∨ v.ownBlock = some k) w w') : RefAt B w' rb M rv := by
  obtain ⟨a1, a2, a3⟩ := apart h hr
  refine hr.kept hf (fun e => ?_) (fun g hg e => ?_)
  · rcases e with e | e
    · exact a1 e
    · exact a2 _ e rfl
  · rcases e with e | e
    · exact (a3 g hg).1 e
    · exact (a3 g hg).2 e
theorem st_keeps (h : St W0 w b L v) (hr : RefAt W0.heap.size w rb M rv) (hB : W0.heap.size ≤ rb) (hf : Fr (fun k => k = rb ∨ rv.ownBlock = some k) w w') : St W0 w' b L v := by
  obtain ⟨a1, a2, a3⟩ := apart h hr
  refine h.turn hf (fun e => ?_) (fun g hg e => ?_) (fun k e => ?_)
  · rcases e with e | e
    · exact a1 e.symm
    · exact (a3 _ e).1 rfl
  · rcases e with e | e
    · exact a2 g hg e
    · exact (a3 g e).2 hg
  · rcases e with e | e
    · rw [e]; exact hB
    · exact (hr.2.lt k e).1
end
/-- The list of turns: a kind, and an item. -/
abbrev Tn := Int × It
def encT (t : Tn) : List Value := [.int .u8 t.1, .int .i64 t.2.1, .int .i64 t.2.2.1, .int .i64 t.2.2.2.1, .int .i64 t.2.2.2.2]
theorem encT_len (t : Tn) : (encT t).length = 5 := rfl
/-- What a turn answers, and leaves. -/
def turnF (L : List It) (t : Tn) : Int × List It :=
  if t.1 % 6 = 0 ∨ t.1 % 6 = 1 ∨ t.1 % 6 = 2 then pushF L t.2 else if t.1 % 6 = 3 then remF L t.2.1 else (0, ageF L)
/-- The queue, the document's, and the turn in its box. -/
structure Two (W0 w : World) (b rb bx : Nat) (t : Tn) (L M : List It) (v rv : Value) : Prop where
  q : St W0 w b L v
  r : RefAt W0.heap.size w rb M rv
  rok : Ok M
  hB : W0.heap.size ≤ rb
  x : w.heap[bx]? = some (.cells (encT t).toArray 33 (0, 0))
section
variable {W0 w w' : World} {b rb bx : Nat} {t : Tn} {L M L' M' : List It} {v rv : Value} {c id x1 x2 x3 x4 : Int}
theorem Two.ne (h : Two W0 w b rb bx t L M v rv) : bx ≠ b ∧ bx ≠ rb ∧ v.ownBlock ≠ some bx ∧ rv.ownBlock ≠ some bx := by
  have hx := h.x
  refine ⟨?_, ?_, fun e => ?_, fun e => ?_⟩
  · rintro rfl
    rw [h.q.lies.1] at hx
    cases hx
  · rintro rfl
    rw [h.r.1] at hx
    cases hx
  · obtain ⟨cur, hc⟩ := own_block h.q.lies.2 e
    rw [hc] at hx
    cases hx
  · obtain ⟨cur, hc⟩ := own_block h.r.2 e
    rw [hc] at hx
    cases hx
theorem Two.drewN (h : Two W0 w b rb bx t L M v rv) (m : Nat) : Two W0 (w.drewN m) b rb bx t L M v rv := ⟨h.q.drewN m, h.r.drewN m, h.rok, h.hB, h.x⟩
theorem Two.drew (h : Two W0 w b rb bx t L M v rv) : Two W0 w.drew b rb bx t L M v rv := h.drewN 1
theorem Two.other (h : Two W0 w b rb bx t L M v rv) (hb : Below w.heap.size w w') : Two W0 w' b rb bx t L M v rv := ⟨h.q.other hb, h.r.below hb, h.rok, h.hB, (hb.block bx (lt_of_heap h.x)).trans h.x⟩
theorem Two.left {v' : Value} (h : Two W0 w b rb bx t L M v rv) (hs : St W0 w' b L' v') (hf : Fr (fun k => k = b ∨ v.ownBlock = some k) w w') : Two W0 w' b rb bx t L' M v' rv :=
  ⟨hs, ref_keeps h.q h.r hf, h.rok, h.hB, hf.keep h.x (fun e => e.elim h.ne.1 h.ne.2.2.1)⟩
theorem Two.right {rv' : Value} (h : Two W0 w b rb bx t L M v rv) (hs : RefAt W0.heap.size w' rb M' rv') (ho : Ok M') (hf : Fr (fun k => k = rb ∨ rv.ownBlock = some k) w w') : Two W0 w' b rb bx t L M' v rv' :=
  ⟨st_keeps h.q h.r h.hB hf, hs, ho, h.hB, hf.keep h.x (fun e => e.elim h.ne.2.1 h.ne.2.2.2)⟩
theorem Two.cells {kd : Int} (h : Two W0 w b rb bx (kd, x1, x2, x3, x4) L M v rv) : w.cell? ⟨bx, 1, none⟩ = some (.int .i64 x1) ∧ w.cell? ⟨bx, 2, none⟩ = some (.int .i64 x2) ∧ w.cell? ⟨bx, 3, none⟩ = some (.int .i64 x3) ∧ w.cell? ⟨bx, 4, none⟩ = some (.int .i64 x4) :=
  ⟨cell_of_heap h.x rfl, cell_of_heap h.x rfl, cell_of_heap h.x rfl, cell_of_heap h.x rfl⟩
theorem two_push (h : Two W0 w b rb bx t L M v rv) (hv : pushF L (x1, x2, x3, x4) = (c, L')) :
    Calls Try.prog 11 #[.pointer (some ⟨b, 0, none⟩), .agg #[.int .i64 x1, .int .i64 x2, .int .i64 x3, .int .i64 x4]] w fun e w' => e = .returned (.int .i64 c) ∧ ∃ v', Two W0 w' b rb bx t L' M v' rv :=
  (push_step h.q x1 x2 x3 x4 hv).mono fun _ _ ⟨he, v', hs, hf, _⟩ => ⟨he, v', h.left hs hf⟩
theorem two_rpush (h : Two W0 w b rb bx t L M v rv) (hv : pushF M (x1, x2, x3, x4) = (c, M')) :
    Calls Try.prog 12 #[.pointer (some ⟨rb, 0, none⟩), .agg #[.int .i64 x1, .int .i64 x2, .int .i64 x3, .int .i64 x4]] w fun e w' => e = .returned (.int .i64 c) ∧ ∃ rv', Two W0 w' b rb bx t L M' v rv' := by
  have ho := h.rok.push (x1, x2, x3, x4)
  rw [hv] at ho
  refine (rpush_at W0.heap.size rb M rv x1 x2 x3 x4 w h.r h.q.below.size h.rok.len).mono ?_
  rintro e w' ⟨he, rv', hs, hf, _⟩
  rw [hv] at he hs
  exact ⟨he, rv', h.right hs ho hf⟩
theorem two_rem (h : Two W0 w b rb bx t L M v rv) (hv : remF L id = (c, L')) :
    Calls Try.prog 13 #[.pointer (some ⟨b, 0, none⟩), .int .i64 id] w fun e w' => e = .returned (.int .i64 c) ∧ ∃ v', Two W0 w' b rb bx t L' M v' rv :=
  (rem_step h.q hv).mono fun _ _ ⟨he, v', hs, _, hf⟩ => ⟨he, v', h.left hs hf⟩
theorem two_rrem (h : Two W0 w b rb bx t L M v rv) (hv : remF M id = (c, M')) :
    Calls Try.prog 14 #[.pointer (some ⟨rb, 0, none⟩), .int .i64 id] w fun e w' => e = .returned (.int .i64 c) ∧ ∃ rv', Two W0 w' b rb bx t L M' v rv' := by
  have ho := h.rok.rem id
  rw [hv] at ho
  refine (rrem_at W0.heap.size rb id M rv w h.r h.q.below.size h.rok.len).mono ?_
  rintro e w' ⟨he, rv', hs, hf, _⟩
  rw [hv] at he hs
  exact ⟨he, rv', h.right hs ho (hf.mono fun _ e => .inl e)⟩
theorem two_age (h : Two W0 w b rb bx t L M v rv) (hv : ageF L = L') :
    Calls Try.prog 15 #[.pointer (some ⟨b, 0, none⟩)] w fun e w' => e = .returned (.int .i64 0) ∧ Two W0 w' b rb bx t L' M v rv :=
  (age_step h.q hv).mono fun _ _ ⟨he, hs, hf⟩ => ⟨he, h.left hs (hf.mono fun _ e => .inr e)⟩
theorem two_rage (h : Two W0 w b rb bx t L M v rv) (hv : ageF M = M') :
    Calls Try.prog 16 #[.pointer (some ⟨rb, 0, none⟩)] w fun e w' => e = .returned (.tuple #[]) ∧ Two W0 w' b rb bx t L M' v rv := by
  have ho := h.rok.age
  rw [hv] at ho
  refine (rage_at W0.heap.size rb M rv w h.r h.rok.len h.rok.may).mono ?_
  rintro e w' ⟨he, hs, hf⟩
  rw [hv] at hs
  exact ⟨he, h.right hs ho (hf.mono fun _ e => .inr e)⟩
end
end Go.Proofs.Ytcallnhkojgnmaa.Q
