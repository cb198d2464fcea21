/- The chapter's ledger: that the statements' own test answers true. No condition. -/
import Derived.Test.YtdgjhnamfgpgeaaIds
namespace Go.Proofs.Ytdgjhnamfgpgeaa.Led
open Go.RowKit Go.Maps
open Go.Proofs.Ytdgjhnamfgpgeaa.Ma
set_option linter.unusedVariables false
set_option linter.unusedSimpArgs false
theorem u64_wf {x : Int} (h : (Lit.int .u64 x).wf = true) : U64 x := by
  simp only [Lit.wf, IntKind.min, IntKind.max, IntKind.signed, IntKind.bits] at h
  simp at h
  exact ⟨by omega, by omega⟩
theorem resF_ok {total : Int} {L : List Ent} {id need : Int} (h : Ok total L) (hid : I64 id) (hn : 0 ≤ need) : Ok total (resF total L id need).2 := by
  unfold resF
  split
  · exact h
  · rename_i h1
    split
    · exact h
    · rename_i h2
      have hk : ¬ 0 < Ma.look L id := fun e => h1 (.inr e)
      have h0 : need ≠ 0 := fun e => h1 (.inl e)
      show Ok total (ins id need (del id L))
      rw [del_out (look_pos h.pos (by omega))]
      exact h.ins hid (by omega) (by omega) (by omega)
theorem resF_yes {total : Int} {L L' : List Ent} {id need : Int} (h0 : need ≠ 0) (h1 : Ma.look L id ≤ 0) (h2 : need ≤ total - sum L) (h3 : ins id need (del id L) = L') : resF total L id need = (0, L') := by
  unfold resF
  rw [if_neg (by omega), if_neg (by omega), h3]
theorem resF_full {total : Int} {L : List Ent} {id need : Int} (h0 : need ≠ 0) (h1 : Ma.look L id ≤ 0) (h2 : total - sum L < need) : resF total L id need = (230, L) := by
  unfold resF
  rw [if_neg (by omega), if_pos h2]
theorem resF_bad {total : Int} {L : List Ent} {id need : Int} (h0 : need = 0 ∨ 0 < Ma.look L id) : resF total L id need = (2, L) := by
  unfold resF
  rw [if_pos h0]
theorem resF_len (total : Int) (L : List Ent) (id need : Int) : (resF total L id need).2.length ≤ L.length + 1 := by
  unfold resF
  split
  · simp
  · split
    · simp
    · show (ins id need (del id L)).length ≤ _
      rw [length_ins]
      have := length_del_le L id
      omega
theorem relF_ok {total : Int} {L : List Ent} {id : Int} (h : Ok total L) : Ok total (relF L id).2 := by
  unfold relF
  split
  · exact h
  · exact h.del
theorem relF_len (L : List Ent) (id : Int) : (relF L id).2.length ≤ L.length := by
  unfold relF
  split
  · simp
  · exact length_del_le L id
/-- A ledger that was made behind W0, and all that has turned since. -/
structure St (W0 w : World) (b bm : Nat) (total : Int) (L : List Ent) : Prop where
  at_ : LedgerAt w b bm total L
  ok : Ok total L
  t0 : 0 ≤ total
  t1 : total ≤ 18446744073709551615
  hb : W0.heap.size ≤ b
  hm : W0.heap.size ≤ bm
  below : Below W0.heap.size W0 w
theorem St.fr {W0 w w' : World} {b bm : Nat} {total : Int} {L L' : List Ent} (h : St W0 w b bm total L) (ha : LedgerAt w' b bm total L') (ho : Ok total L') (hf : Fr (fun k => k = b ∨ k = bm) w w') : St W0 w' b bm total L' :=
  ⟨ha, ho, h.t0, h.t1, h.hb, h.hm, h.below.trans (hf.below h.below.size (fun k hk => by have := h.hb; have := h.hm; rcases hk with rfl | rfl <;> omega))⟩
theorem St.other {W0 w w' : World} {b bm : Nat} {total : Int} {L : List Ent} (h : St W0 w b bm total L) (hb : Below w.heap.size w w') : St W0 w' b bm total L :=
  ⟨h.at_.kept (Fr.of_below hb) (fun e => e) (fun e => e), h.ok, h.t0, h.t1, h.hb, h.hm, h.below.trans (hb.mono h.below.size)⟩
theorem new_step (W0 w : World) (total : Int) (h0 : 0 < total) (h1 : total ≤ 18446744073709551615) (hB : Below W0.heap.size W0 w) :
    Calls Try.prog 8 #[.int .u64 total] w fun e w' => ∃ b bm, e = .returned (.tuple #[.pointer (some ⟨b, 0, none⟩), .int .i64 0]) ∧ St W0 w' b bm total [] ∧ Below w.heap.size w w' ∧ w.heap.size ≤ b ∧ w.heap.size ≤ bm :=
  (new_at total w h0).mono fun e w' ⟨b, bm, he, hb, hm, hL, hbl⟩ => ⟨b, bm, he, ⟨hL, Ok.nil (by omega), by omega, h1, by have := hB.size; omega, by have := hB.size; omega, hB.trans (hbl.mono hB.size)⟩, hbl, hb, hm⟩
theorem res_step {W0 w : World} {b bm : Nat} {total : Int} {L L' : List Ent} {id need c : Int} (h : St W0 w b bm total L) (hv : resF total L id need = (c, L')) (hid : I64 id) (hn : U64 need) (hlen : L.length < 1000000) :
    Calls Try.prog 12 #[.pointer (some ⟨b, 0, none⟩), .int .i64 id, .int .u64 need] w fun e w' => e = .returned (.int .i64 c) ∧ St W0 w' b bm total L' ∧ Fr (fun k => k = b ∨ k = bm) w w' := by
  have H := reserve_at b bm total id need L w h.at_ h.ok h.t1 hid hn (by unfold maxLen; omega)
  have ho := resF_ok (id := id) h.ok hid hn.1
  rw [hv] at H ho
  exact H.mono fun e w' ⟨he, ha, hf⟩ => ⟨he, h.fr ha ho hf, hf⟩
theorem rel_step {W0 w : World} {b bm : Nat} {total : Int} {L L' : List Ent} {id c : Int} (h : St W0 w b bm total L) (hv : relF L id = (c, L')) (hid : I64 id) :
    Calls Try.prog 10 #[.pointer (some ⟨b, 0, none⟩), .int .i64 id] w fun e w' => e = .returned (.int .i64 c) ∧ St W0 w' b bm total L' ∧ Fr (fun k => k = b ∨ k = bm) w w' := by
  have H := release_at b bm total id L w h.at_ h.ok h.t1 hid
  have ho := relF_ok (id := id) h.ok
  rw [hv] at H ho
  exact H.mono fun e w' ⟨he, ha, hf⟩ => ⟨he, h.fr ha ho hf, hf⟩
theorem used_step {W0 w : World} {b bm : Nat} {total u : Int} {L : List Ent} (h : St W0 w b bm total L) (hv : sum L = u) :
    Calls Try.prog 17 #[.pointer (some ⟨b, 0, none⟩)] w fun e w' => e = .returned (.int .u64 u) ∧ w = w' := by
  subst hv
  exact used_at b bm total L w h.at_
theorem held_step {W0 w : World} {b bm : Nat} {total u id : Int} {L : List Ent} (h : St W0 w b bm total L) (hv : Ma.look L id = u) (hid : I64 id) :
    Calls Try.prog 15 #[.pointer (some ⟨b, 0, none⟩), .int .i64 id] w fun e w' => e = .returned (.int .u64 u) ∧ w = w' := by
  subst hv
  exact held_at b bm total id L w h.at_ hid
theorem fits_step {W0 w : World} {b bm : Nat} {total need : Int} {f : Bool} {L : List Ent} (h : St W0 w b bm total L) (hv : decide (need ≤ total - sum L) = f) :
    Calls Try.prog 19 #[.pointer (some ⟨b, 0, none⟩), .int .u64 need] w fun e w' => e = .returned (.bool f) ∧ St W0 w' b bm total L ∧ Below w.heap.size w w' := by
  subst hv
  refine (fits_at b bm total need L w h.at_ (sum_nonneg h.ok.pos) h.ok.le h.t1).mono ?_
  rintro e w' ⟨n, rfl, rfl⟩
  have hb : Below w.heap.size w (w.drewN n) := (Fr.drewN (fun _ => False) w n).below (Nat.le_refl _) (fun k hk => hk.elim)
  exact ⟨rfl, h.other hb, hb⟩
theorem ids_step {W0 w : World} {b bm : Nat} {total : Int} {L : List Ent} (h : St W0 w b bm total L) (hlen : L.length ≤ 1000000) :
    Calls Try.prog 14 #[.pointer (some ⟨b, 0, none⟩)] w fun e w' => ∃ v, e = .returned v ∧ w'.ownsRow w.heap.size 3 1 v L.length ((L.map Prod.fst).map encZ) ∧ (v = .slice none 0 0 ↔ L = []) ∧ St W0 w' b bm total L ∧ Below w.heap.size w w' :=
  (ids_at b bm total L w h.at_ h.ok.rising hlen).mono fun e w' ⟨v, he, hr, hn, hb⟩ => ⟨v, he, hr, hn, h.other hb, hb⟩
theorem ids_slice {w : World} {base e : Nat} {v : Value} {n : Nat} {xs : List Value} (h : w.ownsRow base e 1 v n xs) : ∃ A c, v = .slice A n c ∧ n ≤ c ∧ n ≤ 9223372036854775807 := by
  rcases h.2 with ⟨rfl, rfl⟩ | ⟨g, cap, cur, rfl, _, _, hc, hm, _⟩
  · exact ⟨none, 0, rfl, Nat.le_refl _, by omega⟩
  · exact ⟨_, cap, rfl, hc, by unfold maxLen at hm; omega⟩
theorem adds_calls (w : World) : Calls Try.prog 7 #[] w fun e w' => e = .returned (.bool true) ∧ Below w.heap.size w w' := by
  go_enter Try.func7, Try.ntmps7
  go_wp2_with fail
  refine (new_step w w 10 (by omega) (by omega) (Below.refl _ _)).mono ?_
  rintro e w1 ⟨b, bm, rfl, h1, _, _, _⟩
  go_wp2_with fail
  refine (new_bad w1).mono ?_
  rintro e w' ⟨rfl, rfl⟩
  go_wp2_with fail
  refine (res_step h1 (c := 0) (L' := [(1, 6)]) (by decide) (by decide) (by decide) (by decide)).mono ?_
  rintro e w2 ⟨rfl, h2, _⟩
  go_wp2_with fail
  refine (res_step h2 (c := 2) (L' := [(1, 6)]) (by decide) (by decide) (by decide) (by decide)).mono ?_
  rintro e w3 ⟨rfl, h3, _⟩
  go_wp2_with fail
  refine (res_step h3 (c := 230) (L' := [(1, 6)]) (by decide) (by decide) (by decide) (by decide)).mono ?_
  rintro e w4 ⟨rfl, h4, _⟩
  go_wp2_with fail
  refine (res_step h4 (c := 0) (L' := [(1, 6), (2, 4)]) (by decide) (by decide) (by decide) (by decide)).mono ?_
  rintro e w5 ⟨rfl, h5, _⟩
  go_wp2_with fail
  refine (used_step h5 (u := 10) (by decide)).mono ?_
  rintro e w' ⟨rfl, rfl⟩
  go_wp2_with fail
  refine (rel_step h5 (c := 0) (L' := [(2, 4)]) (by decide) (by decide)).mono ?_
  rintro e w6 ⟨rfl, h6, _⟩
  go_wp2_with fail
  refine (rel_step h6 (c := 4) (L' := [(2, 4)]) (by decide) (by decide)).mono ?_
  rintro e w7 ⟨rfl, h7, _⟩
  go_wp2_with fail
  refine (held_step h7 (u := 4) (by decide) (by decide)).mono ?_
  rintro e w' ⟨rfl, rfl⟩
  go_wp2_with fail
  refine (ids_step h7 (by decide)).mono ?_
  rintro e w8 ⟨v, rfl, hr, _, h8, _⟩
  obtain ⟨A, c, rfl, _, _⟩ := ids_slice hr
  clear hr
  go_wp2_with fail
  refine (res_step h8 (c := 230) (L' := [(2, 4)]) (by decide) (by decide) (by decide) (by decide)).mono ?_
  rintro e w9 ⟨rfl, h9, _⟩
  go_wp2
  go_ret
  exact ⟨rfl, h9.below⟩
end Go.Proofs.Ytdgjhnamfgpgeaa.Led
