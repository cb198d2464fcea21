/- The chapter's queue: each call as a step of what lies; that the statements' own test answers true. Conditions: those that each theorem names. -/
import Derived.Test.YtcallnhkojgnmaaIt2
namespace Go.Proofs.Ytcallnhkojgnmaa.Q
open Go.RowKit Go.Sort Go.Shelf
open Go.Proofs.Ytcallnhkojgnmaa.Ma
set_option linter.unusedVariables false
set_option linter.unusedSimpArgs false
instance (x y : It) : Decidable (Ahead x y) := by unfold Ahead; infer_instance
/-- What may be: at most eight, each as it may be, no number twice. -/
structure Ok (L : List It) : Prop where
  len : L.length ≤ 8
  may : ∀ x ∈ L, may x
  nodup : (L.map Prod.fst).Nodup
theorem Ok.nil : Ok [] := ⟨by simp, (fun x hx => by cases hx), List.Pairwise.nil⟩
theorem Ok.push {L : List It} (h : Ok L) (x : It) : Ok (pushF L x).2 := by
  unfold pushF
  split
  · exact h
  · rename_i h1
    split
    · exact h
    · rename_i h2
      have hm : Q.may x := Classical.byContradiction fun e => h1 (.inl e)
      have hh : hasQ L x.1 = false := by
        cases e : hasQ L x.1
        · rfl
        · exact absurd (.inr e) h1
      refine ⟨by have := h.len; simp; omega, fun y hy => ?_, ?_⟩
      · rcases List.mem_append.1 hy with hy | hy
        · exact h.may y hy
        · rw [List.mem_singleton.1 hy]; exact hm
      · simp only [List.map_append, List.map_cons, List.map_nil]
        rw [List.nodup_append]
        refine ⟨h.nodup, by simp, fun a ha b hb => ?_⟩
        obtain ⟨p, hp, rfl⟩ := List.mem_map.1 ha
        rw [List.mem_singleton.1 hb]
        exact hasQ_false.1 hh p hp
theorem Ok.rem {L : List It} (h : Ok L) (id : Int) : Ok (remF L id).2 := by
  unfold remF
  split
  · exact ⟨Nat.le_trans (List.length_eraseIdx_le _ _) h.len, fun x hx => h.may x (List.mem_of_mem_eraseIdx hx), h.nodup.sublist ((List.eraseIdx_sublist _ _).map _)⟩
  · exact h
theorem Ok.age {L : List It} (h : Ok L) : Ok (ageF L) := by
  refine ⟨by unfold ageF; rw [List.length_map]; exact h.len, fun x hx => ?_, ?_⟩
  · obtain ⟨y, hy, rfl⟩ := List.mem_map.1 hx
    have := h.may y hy
    unfold Q.may tick at *
    dsimp only at *
    omega
  · unfold ageF
    rw [List.map_map]
    exact h.nodup
/-- A queue that was made behind W0, and all that has turned since. -/
structure St (W0 w : World) (b : Nat) (L : List It) (v : Value) : Prop where
  lies : QAt W0.heap.size w b L v
  ok : Ok L
  hb : W0.heap.size ≤ b
  below : Below W0.heap.size W0 w
section
variable {W0 w : World} {b : Nat} {L L' : List It} {v : Value}
theorem St.other {w' : World} (h : St W0 w b L v) (hb : Below w.heap.size w w') : St W0 w' b L v := ⟨h.lies.below hb, h.ok, h.hb, h.below.trans (hb.mono h.below.size)⟩
theorem St.turn {S : Nat → Prop} {w' : World} (h : St W0 w b L v) (hf : Fr S w w') (h1 : ¬ S b) (h2 : ∀ g, v.ownBlock = some g → ¬ S g) (hS : ∀ k, S k → W0.heap.size ≤ k) : St W0 w' b L v :=
  ⟨h.lies.kept hf h1 h2, h.ok, h.hb, h.below.trans (hf.below h.below.size hS)⟩
theorem St.own (h : St W0 w b L v) {k : Nat} (hk : k = b ∨ v.ownBlock = some k) : W0.heap.size ≤ k := by
  rcases hk with rfl | e
  · exact h.hb
  · exact (h.lies.2.lt k e).1
theorem St.drewN (h : St W0 w b L v) (m : Nat) : St W0 (w.drewN m) b L v := h.turn (S := fun _ => False) (Fr.drewN _ w m) (fun e => e) (fun _ _ e => e) (fun _ e => e.elim)
theorem new_step (W0 w : World) (hB : Below W0.heap.size W0 w) : Calls Try.prog 10 #[] w fun e w' => e = .returned (.pointer (some ⟨w.heap.size, 0, none⟩)) ∧ St W0 w' w.heap.size [] (.slice none 0 0) ∧ Below w.heap.size w w' :=
  (new_at w W0.heap.size).mono fun e w' ⟨he, hq, hb⟩ => ⟨he, ⟨hq, Ok.nil, hB.size, hB.trans (hb.mono hB.size)⟩, hb⟩
theorem push_step {c : Int} (h : St W0 w b L v) (x1 x2 x3 x4 : Int) (hv : pushF L (x1, x2, x3, x4) = (c, L')) :
    Calls Try.prog 11 #[.pointer (some ⟨b, 0, none⟩), .agg #[.int .i64 x1, .int .i64 x2, .int .i64 x3, .int .i64 x4]] w fun e w' => e = .returned (.int .i64 c) ∧ ∃ v', St W0 w' b L' v' ∧ Fr (fun k => k = b ∨ v.ownBlock = some k) w w' ∧ ∀ g, v'.ownBlock = some g → v.ownBlock = some g ∨ w.heap.size ≤ g := by
  have H := push_at W0.heap.size b L v (x1, x2, x3, x4) w h.lies h.below.size h.ok.len
  have ho := h.ok.push (x1, x2, x3, x4)
  rw [hv] at H ho
  exact H.mono fun e w' ⟨he, v', hq, hf, hl⟩ => ⟨he, v', ⟨hq, ho, h.hb, h.below.trans (hf.below h.below.size (fun k hk => h.own hk))⟩, hf, hl⟩
theorem rem_step {c id : Int} (h : St W0 w b L v) (hv : remF L id = (c, L')) :
    Calls Try.prog 13 #[.pointer (some ⟨b, 0, none⟩), .int .i64 id] w fun e w' => e = .returned (.int .i64 c) ∧ ∃ v', St W0 w' b L' v' ∧ v'.ownBlock = v.ownBlock ∧ Fr (fun k => k = b ∨ v.ownBlock = some k) w w' := by
  have H := rem_at W0.heap.size b L v id w h.lies h.ok.len
  have ho := h.ok.rem id
  rw [hv] at H ho
  exact H.mono fun e w' ⟨he, v', hq, e2, hf⟩ => ⟨he, v', ⟨hq, ho, h.hb, h.below.trans (hf.below h.below.size (fun k hk => h.own hk))⟩, e2, hf⟩
theorem age_step (h : St W0 w b L v) (hv : ageF L = L') :
    Calls Try.prog 15 #[.pointer (some ⟨b, 0, none⟩)] w fun e w' => e = .returned (.int .i64 0) ∧ St W0 w' b L' v ∧ Fr (fun k => v.ownBlock = some k) w w' := by
  subst hv
  exact (age_at W0.heap.size b L v w h.lies h.ok.len h.ok.may).mono fun e w' ⟨he, hq, hf⟩ => ⟨he, ⟨hq, h.ok.age, h.hb, h.below.trans (hf.below h.below.size (fun k hk => h.own (.inr hk)))⟩, hf⟩
theorem head_step0 (h : St W0 w b [] v) : Calls Try.prog 19 #[.pointer (some ⟨b, 0, none⟩)] w fun e w' => e = .returned (.tuple #[.agg #[.int .i64 0, .int .i64 0, .int .i64 0, .int .i64 0], .bool false]) ∧ St W0 w' b [] v ∧ Below w.heap.size w w' :=
  (head_nil W0.heap.size b v w h.lies).mono fun e w' ⟨he, hb⟩ => ⟨he, h.other hb, hb⟩
theorem head_step {m1 m2 m3 m4 : Int} (h : St W0 w b L v) (h0 : 0 < L.length) (hv : minOf L = (m1, m2, m3, m4)) : Calls Try.prog 19 #[.pointer (some ⟨b, 0, none⟩)] w fun e w' => e = .returned (.tuple #[.agg #[.int .i64 m1, .int .i64 m2, .int .i64 m3, .int .i64 m4], .bool true]) ∧ St W0 w' b L v ∧ Below w.heap.size w w' :=
  (head_at W0.heap.size b L v w h.lies h0 h.ok.len).mono fun e w' ⟨a1, a2, a3, a4, hm, he, hb⟩ => by
    rw [hv] at hm
    cases hm
    exact ⟨he, h.other hb, hb⟩
theorem items_step {M : List It} (h : St W0 w b L v) (hp : M.Perm L) (ho : Order M) : Calls Try.prog 17 #[.pointer (some ⟨b, 0, none⟩)] w fun e w' => ∃ v', e = .returned v' ∧ w'.ownsRow w.heap.size 31 4 v' M.length (cellsK enc4 M) ∧ St W0 w' b L v ∧ Below w.heap.size w w' :=
  (callsIn_wide.1 (items_in W0.heap.size b L v w h.lies h.ok.len)).mono fun e w' ⟨v', M', he, hp', ho', hr, hb⟩ => by
    have := order_unique hp' hp ho' ho h.ok.nodup
    subst this
    exact ⟨v', he, by rw [hp.length_eq]; exact hr, h.other hb, hb⟩
end
theorem rank_val (x1 x2 x3 x4 r : Int) (w : World) (hv : rankZ (x1, x2, x3, x4) = r) : Calls Try.prog 21 #[.agg #[.int .i64 x1, .int .i64 x2, .int .i64 x3, .int .i64 x4]] w fun e w' => e = .returned (.int .i64 r) ∧ Below w.heap.size w w' := by
  subst hv
  exact (rank_any (x1, x2, x3, x4) w).mono fun _ _ ⟨he, hw⟩ => ⟨he, by rw [hw]; exact (Below.refl _ _).alloc (Nat.le_refl _) _⟩
set_option maxHeartbeats 2000000 in
theorem waits_calls (w : World) : Calls Try.prog 9 #[] w fun e w' => e = .returned (.bool true) ∧ Below w.heap.size w w' := by
  go_enter Try.func9, Try.ntmps9
  go_wp2_with fail
  refine (new_step w w (Below.refl _ _)).mono ?_
  rintro e w1 ⟨rfl, h1, _⟩
  obtain ⟨b, hb⟩ : ∃ b, w.heap.size = b := ⟨_, rfl⟩
  rw [hb] at h1 ⊢
  go_wp2_with fail
  refine (push_step h1 1 0 0 0 (c := 0) (L' := [(1, 0, 0, 0)]) (by decide)).mono ?_
  rintro e w2 ⟨rfl, v2, h2, _⟩
  go_wp2_with fail
  refine (push_step h2 2 3 0 0 (c := 0) (L' := [(1, 0, 0, 0), (2, 3, 0, 0)]) (by decide)).mono ?_
  rintro e w3 ⟨rfl, v3, h3, _⟩
  go_wp2_with fail
  refine (head_step h3 (by simp) (m1 := 2) (m2 := 3) (m3 := 0) (m4 := 0) (by decide +kernel)).mono ?_
  rintro e w4 ⟨rfl, h4, _⟩
  go_wp2_with fail
  have h5 := h4.other ((Below.refl _ w4).alloc (Nat.le_refl _) (.cells #[.int .i64 2, .int .i64 3, .int .i64 0, .int .i64 0] 31))
  go_loopw [6] (fun i wr => ∃ (k : Nat) (v : Value), k ≤ 12 ∧ i = .int .i64 k ∧ St w wr b [(1, 0, 0, (k : Int)), (2, 3, 0, (k : Int))] v) (fun i _ => 12 - (intOf i).toNat)
  case atStart => exact ⟨0, v3, by omega, rfl, h5⟩
  case round =>
    obtain ⟨k, v, hk, rfl, hS⟩ := hrel
    by_cases hlt : k < 12
    · have hage : ageF [(1, 0, 0, (k : Int)), (2, 3, 0, (k : Int))] = [(1, 0, 0, ((k + 1 : Nat) : Int)), (2, 3, 0, ((k + 1 : Nat) : Int))] := by
        simp [ageF, tick]
        omega
      have HA := Lib.hid (age_step hS hage)
      clear hS hage h1 h2 h3 h4 h5
      go_wp2_with (go_at_call 15; refine HA.out.mono ?_; rintro e w6 ⟨rfl, h6, _⟩)
      go_roundw
      case rel => exact ⟨k + 1, v, by omega, by go_num, h6⟩
      case measure => simp [intOf]; omega
    · obtain rfl : k = 12 := by omega
      clear h1 h2 h3 h4 h5
      go_wp2_with fail
      refine (push_step hS 3 3 0 0 (c := 0) (L' := [(1, 0, 0, 12), (2, 3, 0, 12), (3, 3, 0, 0)]) (by decide)).mono ?_
      rintro e w6 ⟨rfl, v6, h6, _⟩
      go_wp2_with fail
      refine (push_step h6 1 0 0 0 (c := 2) (L' := [(1, 0, 0, 12), (2, 3, 0, 12), (3, 3, 0, 0)]) (by decide)).mono ?_
      rintro e w7 ⟨rfl, v7, h7, _⟩
      go_wp2_with fail
      refine (items_step h7 (M := [(2, 3, 0, 12), (1, 0, 0, 12), (3, 3, 0, 0)]) (by decide) (by decide +kernel)).mono ?_
      rintro e w8 ⟨v8, rfl, hr8, h8, _⟩
      obtain ⟨g, c, rfl, _, hg, hc, hcm, hc0⟩ := row_own enc4_len hr8 (j := 0) (x := (2, 3, 0, 12)) rfl
      obtain ⟨g', c', e, _, _, _, _, hc1⟩ := row_own enc4_len hr8 (j := 1) (x := (1, 0, 0, 12)) rfl
      cases e
      obtain ⟨g', c', e, _, _, _, _, hc2⟩ := row_own enc4_len hr8 (j := 2) (x := (3, 3, 0, 0)) rfl
      cases e
      have q0 : w8.cell? ⟨g, 0, none⟩ = some (.int .i64 2) := (hc0 0 _ rfl).1
      have q1 : w8.cell? ⟨g, 1, none⟩ = some (.int .i64 3) := (hc0 1 _ rfl).1
      have q2 : w8.cell? ⟨g, 2, none⟩ = some (.int .i64 0) := (hc0 2 _ rfl).1
      have q3 : w8.cell? ⟨g, 3, none⟩ = some (.int .i64 12) := (hc0 3 _ rfl).1
      have q4 : w8.cell? ⟨g, 4, none⟩ = some (.int .i64 1) := (hc1 0 _ rfl).1
      have q8 : w8.cell? ⟨g, 8, none⟩ = some (.int .i64 3) := (hc2 0 _ rfl).1
      clear hc0 hc1 hc2 hr8
      simp only [List.length_cons, List.length_nil] at hc ⊢
      go_wp2_with fail
      refine (rank_val 2 3 0 12 6 w8 (by decide +kernel)).mono ?_
      rintro e w9 ⟨rfl, hb9⟩
      go_wp2_with fail
      refine (rem_step (h8.other hb9) (id := 2) (c := 0) (L' := [(1, 0, 0, 12), (3, 3, 0, 0)]) (by decide)).mono ?_
      rintro e w10 ⟨rfl, v10, h10, _, _⟩
      go_wp2_with fail
      refine (rem_step h10 (id := 2) (c := 4) (L' := [(1, 0, 0, 12), (3, 3, 0, 0)]) (by decide)).mono ?_
      rintro e w11 ⟨rfl, v11, h11, _, _⟩
      go_wp2
      go_ret
      exact ⟨rfl, h11.below⟩
end Go.Proofs.Ytcallnhkojgnmaa.Q
