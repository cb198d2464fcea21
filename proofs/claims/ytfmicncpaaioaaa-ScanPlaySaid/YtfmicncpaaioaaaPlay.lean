/- ScanPlay, walked: whoever joins, is served, and leaves, each answer is the document's. Conditions: the list of moves lies readable, its numbers are of their kind. -/
import Derived.Deep.RegionHeld3
import Derived.Test.YtfmicncpaaioaaaRefH
namespace Go.Proofs.Ytfmicncpaaioaaa.Ma
open Go.RowKit
theorem Fr.cell {S : Nat → Prop} {w w' : World} (h : Fr S w w') {k i : Nat} {v : Value} (hv : w.cell? ⟨k, i, none⟩ = some v) (hk : k < w.heap.size) (hS : ¬ S k) : w'.cell? ⟨k, i, none⟩ = some v := by
  have : w'.cell? ⟨k, i, none⟩ = w.cell? ⟨k, i, none⟩ := by simp [World.cell?, h.block k hk hS]
  rw [this, hv]
end Go.Proofs.Ytfmicncpaaioaaa.Ma
namespace Go.Proofs.Ytfmicncpaaioaaa.Sc
open Go.RowKit Go.Maps Go.Sort Go.Shelf
open Go.Proofs.Ytfmicncpaaioaaa.Ma
set_option linter.unusedVariables false
set_option linter.unusedSimpArgs false
def IsMoves (w : World) (A : Option Addr) (len : Nat) (xs : List (Int × Int)) : Prop :=
  xs.length = len ∧ ∀ k x, xs[k]? = some x → ∃ bk o, A = some ⟨bk, o, none⟩ ∧ bk < w.heap.size ∧ w.cell? ⟨bk, o + k * 2, none⟩ = some (.int .u8 x.1) ∧ w.cell? ⟨bk, o + k * 2 + 1, none⟩ = some (.int .i64 x.2) ∧ (Lit.int .u8 x.1).wf = true ∧ I64 x.2
theorem u8_wf {x : Int} (h : (Lit.int .u8 x).wf = true) : 0 ≤ x ∧ x ≤ 255 := by
  simp only [Lit.wf, IntKind.min, IntKind.max, IntKind.signed, IntKind.bits] at h
  simp at h
  omega
variable {H : Type} {enc : TypeId × Value → H} {W : World}
theorem u8_in (n : Int) (h : 0 ≤ n ∧ n ≤ 255) : IntKind.u8.wrap n = n := by
  simp only [IntKind.wrap, IntKind.bits, IntKind.signed]
  simp
  exact Int.emod_eq_of_lt h.1 (by omega)
/-- So many cells, of what is there already. -/
def Wr (w : World) (B : Nat) (A : Option Addr) (n : Nat) : Prop := ∀ j, j < n → ∃ g u, A = some ⟨g, 0, none⟩ ∧ B ≤ g ∧ g < w.heap.size ∧ w.cell? ⟨g, j, none⟩ = some u ∧ w.frozen? ⟨g, j, none⟩ = false
theorem IsInts.wr {w : World} {B : Nat} {A : Option Addr} {l : List Int} (h : IsInts w B A l) : Wr w B A l.length := fun j hj => by
  obtain ⟨g, e, hb, hs, hc, hf⟩ := h j l[j] (List.getElem?_eq_getElem hj)
  exact ⟨g, _, e, hb, hs, hc, hf⟩
theorem Wr.setCell {w : World} {B : Nat} {A : Option Addr} {n : Nat} (h : Wr w B A n) (a : Addr) (u : Value) : Wr (w.setCell a u) B A n := fun j hj => by
  obtain ⟨g, v, e, hb, hs, hc, hf⟩ := h j hj
  obtain ⟨v', hv'⟩ := cell?_setCell_some (p := a) (x := u) hc
  exact ⟨g, v', e, hb, by simp [World.setCell]; exact hs, hv', by rw [World.frozen?_setCell]; exact hf⟩
theorem Wr.below {w w' : World} {B B' : Nat} {A : Option Addr} {n : Nat} (h : Wr w B A n) (hb : Below B' w w') (hB : w.heap.size ≤ B') : Wr w' B A n := fun j hj => by
  obtain ⟨g, v, e, h1, hs, hc, hf⟩ := h j hj
  exact ⟨g, v, e, h1, by have := hb.size; omega, (hb.cell (p := ⟨g, j, none⟩) (by show g < B'; omega)).trans hc, (hb.frozen (p := ⟨g, j, none⟩) (by show g < B'; omega)).trans hf⟩
theorem Wr.mono {w : World} {B B' : Nat} {A : Option Addr} {n : Nat} (h : Wr w B A n) (hB : B' ≤ B) : Wr w B' A n := fun j hj => by
  obtain ⟨g, v, e, h1, hs, hc, hf⟩ := h j hj
  exact ⟨g, v, e, by omega, hs, hc, hf⟩
theorem St.ref {W0 w : World} {b bm rb B : Nat} {n a n' a' : Int} {L M : List Ent} {v : Value} (h : St W0 w b bm n a L) (hr : RefAt B w rb n' a' M v) : rb ≠ b ∧ rb ≠ bm ∧ ∀ g, v.ownBlock = some g → g ≠ b ∧ g ≠ bm := by
  obtain ⟨h1, es, clock, h2, _⟩ := h.lies
  refine ⟨?_, ?_, fun g hg => ?_⟩
  · rintro rfl; rw [hr.1] at h1; cases h1
  · rintro rfl; rw [hr.1] at h2; cases h2
  · rcases hr.2.2 with ⟨rfl, _⟩ | ⟨g', cap, cur, rfl, _, hg', _⟩
    · simp [Value.ownBlock] at hg
    · simp [Value.ownBlock] at hg
      subst hg
      refine ⟨?_, ?_⟩
      · rintro rfl; rw [hg'] at h1; cases h1
      · rintro rfl; rw [hg'] at h2; cases h2
theorem RefAt.drewN {B : Nat} {w : World} {rb : Nat} {n a : Int} {L : List Ent} {v : Value} (m : Nat) (h : RefAt B w rb n a L v) : RefAt B (w.drewN m) rb n a L v := h
section
variable {B rb : Nat} {n a id c i a' : Int} {L L' : List Ent} {v : Value} {w : World}
theorem ratt_step (h : RefAt B w rb n a L v) (hv : attF L id = (c, L')) (hB : B ≤ w.heap.size) (ho : Ok L) :
    Calls Try.prog 12 #[.pointer (some ⟨rb, 0, none⟩), .int .i64 id] w fun e w' => e = .returned (.int .i64 c) ∧ ∃ v', RefAt B w' rb n a L' v' ∧ Fr (fun k => k = rb) w w' := by
  have H := rattach_at B rb n a id L v w h hB ho.rising ho.len
  rw [hv] at H
  exact H
theorem rdet_step (h : RefAt B w rb n a L v) (hv : detF L id = (c, L')) (hB : B ≤ w.heap.size) (ho : Ok L) :
    Calls Try.prog 14 #[.pointer (some ⟨rb, 0, none⟩), .int .i64 id] w fun e w' => e = .returned (.int .i64 c) ∧ ∃ v', RefAt B w' rb n a L' v' ∧ Fr (fun k => k = rb) w w' := by
  have H := rdetach_at B rb n a id L v w h hB ho.rising ho.len
  rw [hv] at H
  exact H
theorem rser_step (h : RefAt B w rb n a L v) (hv : serF L id = (c, L')) (ho : Ok L) :
    Calls Try.prog 16 #[.pointer (some ⟨rb, 0, none⟩), .int .i64 id] w fun e w' => e = .returned (.int .i64 c) ∧ RefAt B w' rb n a L' v ∧ Fr (fun k => v.ownBlock = some k) w w' := by
  have H := rserve_at B rb n a id L v w h ho.rising
  rw [hv] at H
  exact H
theorem radv_step (h : RefAt B w rb n a L v) (hv : advF n a L = ((i, c), a', L')) (ho : Ok L) (h0 : 0 < n) (h1 : n ≤ 16) (h2 : -1 ≤ a) (h3 : a < n) :
    Calls Try.prog 18 #[.pointer (some ⟨rb, 0, none⟩)] w fun e w' => e = .returned (.tuple #[.int .i64 i, .int .i64 c]) ∧ RefAt B w' rb n a' L' v ∧ Fr (fun k => k = rb ∨ v.ownBlock = some k) w w' := by
  unfold advF at hv
  split at hv
  · rename_i hw
    simp only [Prod.mk.injEq] at hv
    obtain ⟨⟨rfl, rfl⟩, rfl, rfl⟩ := hv
    exact radv_go B rb n a L v w h ho.len h0 h1 h2 h3 hw
  · rename_i hw
    simp only [Prod.mk.injEq] at hv
    obtain ⟨⟨rfl, rfl⟩, rfl, rfl⟩ := hv
    exact (radv_wait B rb n a L v w h ho.len hw).mono fun e w' ⟨he, hr, hb⟩ => ⟨he, hr, (Fr.of_below hb).mono (fun _ h => h.elim)⟩
end
theorem rids_step {B rb : Nat} {n a : Int} {L : List Ent} {v : Value} {w : World} {wt : Bool} {l : List Int} (h : RefAt B w rb n a L v) (ho : Ok L) (hv : idsOf (!wt) L = l) :
    Calls Try.prog 23 #[.pointer (some ⟨rb, 0, none⟩), .bool wt] w fun e w' => ∃ A c, e = .returned (.slice A l.length c) ∧ (l.length ≤ c ∧ l.length ≤ 4) ∧ IsInts w' w.heap.size A l ∧ Below w.heap.size w w' := by
  subst hv
  refine (rids_at B rb n a L v wt w h ho.len).mono fun e w' ⟨v', he, hr, hb⟩ => ?_
  obtain ⟨A, c, rfl, hc, _, hi⟩ := ids_cells hr
  have hl := idsOf_le (!wt) L L.length
  rw [List.take_length] at hl
  exact ⟨A, c, he, ⟨hc, Nat.le_trans hl ho.len⟩, hi, hb⟩
theorem ints_same {B B' c c' : Nat} {A A' : Option Addr} {l : List Int} {w : World} (hx : IsInts w B A l) (hy : IsInts w B' A' l) (hl : l.length ≤ 4) :
    Calls Try.prog 22 #[.slice A l.length c, .slice A' l.length c'] w fun e w' => e = .returned (.bool true) ∧ ∃ m, w' = w.drewN m := by
  refine (ints_at B B' A A' c c' l l w hx hy (by omega) (by omega)).mono fun e w' ⟨he, m, hw⟩ => ⟨?_, m, hw⟩
  rw [he]; simp
theorem IsInts.drewN {w : World} {B : Nat} {A : Option Addr} {l : List Int} (m : Nat) (h : IsInts w B A l) : IsInts (w.drewN m) B A l := h
set_option maxRecDepth 100000 in
theorem play_great (n : Int) (A : Option Addr) (len cap : Nat) (w : World) (hl : len ≤ 9223372036854775807) (h2 : 300 < len) : Calls Try.prog 3 #[.int .i64 n, .slice A len cap] w fun e w' => e = .returned (.bool true) ∧ Below w.heap.size w w' := by
  have h3 : (300 : Int) < len := by omega
  go_enter Try.func3, Try.ntmps3
  go_wp2_with (go_at_call 8; refine (rides_calls _).mono ?_; rintro e w' ⟨rfl, hb⟩)
  go_ret
  exact ⟨rfl, hb⟩
set_option maxRecDepth 100000 in
set_option maxHeartbeats 4000000 in
theorem play_bad (n : Int) (hn : n < 1 ∨ 16 < n) (A : Option Addr) (len cap : Nat) (w : World) (hl : len ≤ 300) : Calls Try.prog 3 #[.int .i64 n, .slice A len cap] w fun e w' => e = .returned (.bool true) ∧ Below w.heap.size w w' := by
  have h2 : ¬ (300 : Int) < len := by omega
  go_enter Try.func3, Try.ntmps3
  go_wp2_with (first | (go_at_call 9; refine (new_bad n w hn).mono ?_; rintro e w' ⟨rfl, rfl⟩) | (go_at_call 10; refine (rnew_bad n w hn).mono ?_; rintro e w' ⟨rfl, rfl⟩))
  go_loopw [9] (fun i wr => i = .int .i64 0 ∧ wr = w) (fun _ _ => 0)
  case atStart => exact ⟨rfl, rfl⟩
  case round =>
    obtain ⟨rfl, rfl⟩ := hrel
    by_cases h : 0 < len
    all_goals
      go_wp2_with (go_at_call 8; refine (rides_calls _).mono ?_; rintro e w2 ⟨rfl, hb⟩)
      go_ret
      exact ⟨rfl, hb⟩
end Go.Proofs.Ytfmicncpaaioaaa.Sc
