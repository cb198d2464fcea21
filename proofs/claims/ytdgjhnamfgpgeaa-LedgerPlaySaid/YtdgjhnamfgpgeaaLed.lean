/- What the ledger's functions do, each once: a ledger lies in memory as its total, how much is used, and a map of who has how much. Conditions: those that each theorem names. -/
import Derived.WalkKit
import Derived.OwnWalk
import Derived.Maps.OwnSet
import Derived.Laws.LoneSync
import Derived.Deep.QuietTactic
import Derived.BigQuiet
import Derived.WalkSpells
import Derived.Deep.RegionWith
import Derived.StillTailTactics
import Derived.Lib.Hide
import Derived.Test.YtdgjhnamfgpgeaaProg
import Derived.Test.YtdgjhnamfgpgeaaMa
namespace Go.Proofs.Ytdgjhnamfgpgeaa.Led
open Go.RowKit Go.Maps
open Go.Proofs.Ytdgjhnamfgpgeaa.Ma
set_option linter.unusedVariables false
set_option linter.unusedSimpArgs false

theorem law3 : Keyed Try.prog 3 := int_keyed Try.underlying3
theorem zero22 (w : World) : (zeroValue 22).run Try.prog w = .ok (.int .u64 0) w := by kernel_rfl
abbrev U64 (x : Int) : Prop := 0 ≤ x ∧ x ≤ 18446744073709551615
abbrev I64 (x : Int) : Prop := (Lit.int .i64 x).wf = true

theorem wf_u64 {x : Int} (h : U64 x) : (Lit.int .u64 x).wf = true := by
  have h2 := h
  simp only [Lit.wf, IntKind.min, IntKind.max, IntKind.signed, IntKind.bits]
  simp
  omega
/-- A ledger of so much, in block b, its map in block bm. -/
def LedgerAt (w : World) (b bm : Nat) (total : Int) (L : List Ent) : Prop :=
  w.heap[b]? = some (.cells #[.int .u64 total, .int .u64 (sum L), .map (some bm)] 54 (0, 0)) ∧ w.ownsMap Try.prog 3 (plainElem Try.prog 22) bm L.length (mk L)
theorem LedgerAt.c0 {w : World} {b bm : Nat} {total : Int} {L : List Ent} (h : LedgerAt w b bm total L) : w.cell? ⟨b, 0, none⟩ = some (.int .u64 total) := cell_of_heap h.1 rfl
theorem LedgerAt.c1 {w : World} {b bm : Nat} {total : Int} {L : List Ent} (h : LedgerAt w b bm total L) : w.cell? ⟨b, 1, none⟩ = some (.int .u64 (sum L)) := cell_of_heap h.1 rfl
theorem LedgerAt.c2 {w : World} {b bm : Nat} {total : Int} {L : List Ent} (h : LedgerAt w b bm total L) : w.cell? ⟨b, 2, none⟩ = some (.map (some bm)) := cell_of_heap h.1 rfl
theorem LedgerAt.f1 {w : World} {b bm : Nat} {total : Int} {L : List Ent} (h : LedgerAt w b bm total L) : w.frozen? ⟨b, 1, none⟩ = false := free_of_heap h.1 (by simp)
theorem LedgerAt.ne {w : World} {b bm : Nat} {total : Int} {L : List Ent} (h : LedgerAt w b bm total L) : bm ≠ b := by
  rintro rfl
  obtain ⟨h1, es, clock, h2, _⟩ := h
  rw [h1] at h2
  cases h2
theorem LedgerAt.kept {S : Nat → Prop} {w w' : World} {b bm : Nat} {total : Int} {L : List Ent} (h : LedgerAt w b bm total L) (hf : Fr S w w') (hb : ¬ S b) (hm : ¬ S bm) : LedgerAt w' b bm total L := ⟨hf.keep h.1 hb, hf.map h.2 hm⟩
theorem LedgerAt.look {w : World} {b bm : Nat} {total : Int} {L : List Ent} (h : LedgerAt w b bm total L) {id : Int} (hid : I64 id) :
    (Instr.lookup 52 (.map (some bm)) (.int .i64 id) false).run Try.prog w = .ok (.int .u64 (Ma.look L id)) w := by
  obtain ⟨c, hrun, hat, _⟩ := h.2.lookup_int law3 Try.underlying52 Try.underlying22 (zero22 _) (keyOf_int_mk Try.underlying3 hid)
  rw [mk_at] at hat
  cases hat
  exact hrun
theorem quiet_eq {P : Program} {f : FuncId} {args : Array Value} {w : World} {n : Nat} {v : Value}
    (h : Calls P f args (w.drewN n) fun e w' => e = .returned v ∧ w.drewN n = w') : Calls P f args (w.drewN n) fun e w'' => e = .returned v ∧ ∃ m, w'' = w.drewN m :=
  h.mono fun _ _ ⟨he, hm⟩ => ⟨he, n, hm.symm⟩
theorem still_eq {P : Program} {f : FuncId} {args : Array Value} {w : World} {v : Value}
    (h : Calls P f args w fun e w' => e = .returned v ∧ w = w') : Calls P f args w fun e w'' => e = .returned v ∧ w'' = w := h.mono fun _ _ ⟨he, hm⟩ => ⟨he, hm.symm⟩
theorem region_tail {P : Program} {id : Nat} {Q : Exit → Act → World → Prop} {a : Act} {w : World} {l : List Oper} (n : Nat) (hm : P.follows .mixedOrders = true) (hB : Region.lexTailB .any l.toArray n = true)
    (h : ∀ wd : World, wd = w.drew → wpStill P l.toArray wd (fun a' => wpList P l.toArray Q (l.drop n) a' wd) (l.take n) a) : (Code.region id l.toArray true).wp P Q a w :=
  wp_region_still_tail n hm hB (h w.drew rfl)
theorem cell_drewN {w : World} {a : Addr} {v : Value} (n : Nat) (h : w.cell? a = some v) : (w.drewN n).cell? a = some v := h
theorem LedgerAt.turned {w w1 : World} {n b bm : Nat} {total : Int} {L : List Ent} (h : LedgerAt w b bm total L) (ht : (w.drewN n).mapTurned w1 bm) :
    w1.heap[b]? = some (.cells #[.int .u64 total, .int .u64 (sum L), .map (some bm)] 54 (0, 0)) ∧ Fr (fun k => k = bm) w w1 := by
  have hf : Fr (fun k => k = bm) w w1 := (Fr.drewN _ _ n).trans (Fr.of_grown ht.grown)
  exact ⟨hf.keep h.1 (fun e => h.ne e.symm), hf⟩
theorem LedgerAt.wrote {w w1 : World} {b bm m : Nat} {total s : Int} {L' : List Ent} {D : DataW Unit} (h1 : w1.heap[b]? = some (.cells #[.int .u64 total, .int .u64 s, .map (some bm)] 54 (0, 0))) (hf : Fr (fun k => k = bm) w w1)
    (hown : w1.ownsMap Try.prog 3 (plainElem Try.prog 22) bm m D) (hD : D = mk L') (hne : bm ≠ b) :
    LedgerAt (w1.setCell ⟨b, 1, none⟩ (.int .u64 (sum L'))) b bm total L' ∧ Fr (fun k => k = b ∨ k = bm) w (w1.setCell ⟨b, 1, none⟩ (.int .u64 (sum L'))) := by
  subst hD
  refine ⟨⟨by rw [heap_setCell_at h1]; rfl, ?_⟩, (hf.mono (fun _ h => .inr h)).trans ((Fr.setCell _ _ _).mono (fun _ h => .inl h))⟩
  have := (Fr.setCell w1 ⟨b, 1, none⟩ (.int .u64 (sum L'))).map (ownsMap_tight hown) hne
  rwa [mk_size] at this
theorem LedgerAt.gone {w w1 : World} {b bm m : Nat} {total s : Int} {L L' : List Ent} {D : DataW Unit} (h : LedgerAt w b bm total L) (hown : w1.ownsMap Try.prog 3 (plainElem Try.prog 22) bm m D) (hD : D = mk L') (hs : s = sum L')
    (ht : (w.setCell ⟨b, 1, none⟩ (.int .u64 s)).mapTurned w1 bm) : LedgerAt w1 b bm total L' ∧ Fr (fun k => k = b ∨ k = bm) w w1 := by
  subst hD hs
  have hf : Fr (fun k => k = bm) (w.setCell ⟨b, 1, none⟩ (.int .u64 (sum L'))) w1 := Fr.of_grown ht.grown
  refine ⟨⟨hf.keep (by rw [heap_setCell_at h.1]; rfl) (fun e => h.ne e.symm), ?_⟩, ((Fr.setCell w ⟨b, 1, none⟩ (.int .u64 (sum L'))).mono (fun _ h => .inl h)).trans (hf.mono (fun _ h => .inr h))⟩
  have := ownsMap_tight hown
  rwa [mk_size] at this
/-! ### the counter -/
theorem load_calls (b o : Nat) (x : Int) (w : World) (c : w.cell? ⟨b, o, none⟩ = some (.int .u64 x)) : Calls Try.prog 22 #[.pointer (some ⟨b, o, none⟩)] w fun e w' => e = .returned (.int .u64 x) ∧ w = w' := by
  have hl := run_call_load (P := Try.prog) Try.func27 (by kernel_rfl) (by kernel_rfl) (by kernel_rfl) .u64 (by kernel_rfl) c
  go_enter Try.func22, Try.ntmps22
  go_wp2
  go_ret
  exact ⟨rfl, rfl⟩
theorem store_calls (b o : Nat) (x y : Int) (w : World) (c : w.cell? ⟨b, o, none⟩ = some (.int .u64 x)) (f : w.frozen? ⟨b, o, none⟩ = false) : Calls Try.prog 21 #[.pointer (some ⟨b, o, none⟩), .int .u64 y] w fun e w' => e = .returned (.tuple #[]) ∧ w.setCell ⟨b, o, none⟩ (.int .u64 y) = w' := by
  have hl := run_call_store (P := Try.prog) Try.func26 (by kernel_rfl) (by kernel_rfl) (by kernel_rfl) (by kernel_rfl) (k := .u64) (y := y) c f
  go_enter Try.func21, Try.ntmps21
  go_wp2
  go_end0
  exact ⟨rfl, rfl⟩
theorem add_calls (b o : Nat) (x y : Int) (w : World) (c : w.cell? ⟨b, o, none⟩ = some (.int .u64 x)) (f : w.frozen? ⟨b, o, none⟩ = false) (h0 : 0 ≤ x + y) (h1 : x + y ≤ 18446744073709551615) :
    Calls Try.prog 23 #[.pointer (some ⟨b, o, none⟩), .int .u64 y] w fun e w' => e = .returned (.int .u64 (x + y)) ∧ w.setCell ⟨b, o, none⟩ (.int .u64 (x + y)) = w' := by
  have hs : (Op.intArith .add .u64 x y).run Try.prog w = .ok (.int .u64 (x + y)) w := by
    have e : (x + y) % 18446744073709551616 = x + y := Int.emod_eq_of_lt h0 (by omega)
    simp [Op.intArith, IntKind.wrap, IntKind.signed, IntKind.bits, e]
  have hl := run_call_add (P := Try.prog) Try.func28 (by kernel_rfl) (by kernel_rfl) (by kernel_rfl) .u64 (by kernel_rfl) (y := y) c f hs
  go_enter Try.func23, Try.ntmps23
  go_wp2
  go_ret
  exact ⟨rfl, rfl⟩
/-! ### none -/
theorem none_at (b bm : Nat) (w : World) (c : w.cell? ⟨b, 2, none⟩ = some (.map (some bm))) : Calls Try.prog 20 #[.pointer (some ⟨b, 0, none⟩)] w fun e w' => e = .returned (.bool false) ∧ w = w' := by
  have hm := fun (w : World) (r : Option Nat) => run_eql_map_nil (P := Try.prog) w 52 3 22 r Try.underlying52
  go_enter Try.func20, Try.ntmps20
  go_wp2
  go_ret
  exact ⟨rfl, rfl⟩
theorem none_empty (b : Nat) (w : World) (c : w.cell? ⟨b, 2, none⟩ = some (.map none)) : Calls Try.prog 20 #[.pointer (some ⟨b, 0, none⟩)] w fun e w' => e = .returned (.bool true) ∧ w = w' := by
  have hm := fun (w : World) (r : Option Nat) => run_eql_map_nil (P := Try.prog) w 52 3 22 r Try.underlying52
  go_enter Try.func20, Try.ntmps20
  go_wp2
  go_ret
  exact ⟨rfl, rfl⟩
theorem none_nil (w : World) : Calls Try.prog 20 #[.pointer none] w fun e w' => e = .returned (.bool true) ∧ w = w' := by
  go_enter Try.func20, Try.ntmps20
  go_wp2
  go_ret
  exact ⟨rfl, rfl⟩
theorem fits_at (b bm : Nat) (total need : Int) (L : List Ent) (w : World) (h : LedgerAt w b bm total L) (h0 : 0 ≤ sum L) (h1 : sum L ≤ total) (ht : total ≤ 18446744073709551615) :
    Calls Try.prog 19 #[.pointer (some ⟨b, 0, none⟩), .int .u64 need] w fun e w' => ∃ n, e = .returned (.bool (decide (need ≤ total - sum L))) ∧ w.drewN n = w' := by
  have c0 := h.c0
  have c1 := h.c1
  have c2 := h.c2
  clear h
  generalize sum L = used at *
  go_enter Try.func19, Try.ntmps19
  go_wp2
  go_quiet ((first | (go_at_call 20; exact quiet_eq (none_at _ _ _ (cell_drewN _ c2))) | (go_at_call 22; exact quiet_eq (load_calls _ _ _ _ (cell_drewN _ c1)))))
  go_wp2
  go_ret
  exact ⟨_, rfl, rfl⟩
theorem used_at (b bm : Nat) (total : Int) (L : List Ent) (w : World) (h : LedgerAt w b bm total L) :
    Calls Try.prog 17 #[.pointer (some ⟨b, 0, none⟩)] w fun e w' => e = .returned (.int .u64 (sum L)) ∧ w = w' := by
  have c1 := h.c1
  have c2 := h.c2
  clear h
  go_enter Try.func17, Try.ntmps17
  go_wp2_with (first | (go_at_call 20; refine (none_at _ _ _ c2).mono ?_; rintro e w' ⟨rfl, rfl⟩) | (go_at_call 22; refine (load_calls _ _ _ _ c1).mono ?_; rintro e w' ⟨rfl, rfl⟩))
  go_ret
  exact ⟨rfl, rfl⟩
theorem held_at (b bm : Nat) (total id : Int) (L : List Ent) (w : World) (h : LedgerAt w b bm total L) (hid : I64 id) :
    Calls Try.prog 15 #[.pointer (some ⟨b, 0, none⟩), .int .i64 id] w fun e w' => e = .returned (.int .u64 (Ma.look L id)) ∧ w = w' := by
  have c2 := h.c2
  have hl := h.look hid
  clear h
  go_enter Try.func15, Try.ntmps15
  go_wp2_with (first | (go_at_call 20; refine (none_at _ _ _ c2).mono ?_; rintro e w' ⟨rfl, rfl⟩))
  go_ret
  exact ⟨rfl, rfl⟩
/-- A ledger in new memory. -/
theorem new_at (total : Int) (w : World) (h0 : 0 < total) :
    Calls Try.prog 8 #[.int .u64 total] w fun e w' => ∃ b bm, e = .returned (.tuple #[.pointer (some ⟨b, 0, none⟩), .int .i64 0]) ∧ w.heap.size ≤ b ∧ w.heap.size ≤ bm ∧ LedgerAt w' b bm total [] ∧ Below w.heap.size w w' := by
  have hmm := @run_makeMap Try.prog
  have ht : (total == 0) = false := by simpa using (show total ≠ 0 by omega)
  go_enter Try.func8, Try.ntmps8
  go_wp2
  go_ret2
  refine ⟨_, w.heap.size, rfl, ?_, Nat.le_refl _, ⟨?_, ?_⟩, ?_⟩
  · omega
  · have h1 := heap_alloc_new (w.alloc (.map #[] 0)) (.cells #[.int .u64 total, .int .u64 0, .map (some w.heap.size)] 54)
    simpa [sum] using h1
  · exact (World.ownsMap_made w Try.prog 3 (plainElem Try.prog 22)).alloc _
  · exact ((Below.refl _ _).alloc (Nat.le_refl _) _).alloc (by simp) _
theorem new_bad (w : World) : Calls Try.prog 8 #[.int .u64 0] w fun e w' => e = .returned (.tuple #[.pointer none, .int .i64 2]) ∧ w = w' := by
  go_enter Try.func8, Try.ntmps8
  go_wp2
  go_ret2
  exact ⟨rfl, rfl⟩
/-- What Reserve answers, and leaves. -/
def resF (total : Int) (L : List Ent) (id need : Int) : Int × List Ent :=
  if need = 0 ∨ 0 < Ma.look L id then (2, L) else if total - sum L < need then (230, L) else (0, ins id need (del id L))
theorem reserve_at (b bm : Nat) (total id need : Int) (L : List Ent) (w : World) (h : LedgerAt w b bm total L) (hok : Ok total L) (ht : total ≤ 18446744073709551615) (hid : I64 id) (hn : U64 need) (hlen : L.length < maxLen) :
    Calls Try.prog 12 #[.pointer (some ⟨b, 0, none⟩), .int .i64 id, .int .u64 need] w fun e w' => e = .returned (.int .i64 (resF total L id need).1) ∧ LedgerAt w' b bm total (resF total L id need).2 ∧ Fr (fun k => k = b ∨ k = bm) w w' := by
  have c2 := h.c2
  have hl := h.look hid
  have hp := look_le hok.pos id
  have hs := sum_nonneg hok.pos
  have hle := hok.le
  have HA := Lib.hid h
  have HO := Lib.hid hok
  have hkey := keyOf_int_mk Try.underlying3 hid
  clear h hok
  by_cases h1 : need = 0
  · subst h1
    have : resF total L id 0 = (2, L) := by simp [resF]
    rw [this]
    go_enter Try.func12, Try.ntmps12
    go_wp2_with (first | (go_at_call 20; refine (none_at _ _ _ c2).mono ?_; rintro e w' ⟨rfl, rfl⟩))
    go_ret
    exact ⟨rfl, HA.out, Fr.refl _ _⟩
  · have e1 : (need == 0) = false := by simpa using h1
    by_cases h2 : 0 < Ma.look L id
    · have : resF total L id need = (2, L) := by simp [resF, h2]
      rw [this]
      go_enter Try.func12, Try.ntmps12
      go_wp2_with (first | (go_at_call 20; refine (none_at _ _ _ c2).mono ?_; rintro e w' ⟨rfl, rfl⟩))
      go_ret
      exact ⟨rfl, HA.out, Fr.refl _ _⟩
    · have hfit := fits_at b bm total need L w HA.out hs hle ht
      by_cases h3 : total - sum L < need
      · have : resF total L id need = (230, L) := by simp [resF, h1, h2, h3]
        rw [this]
        have e3 : decide (need ≤ total - sum L) = false := by simp; omega
        rw [e3] at hfit
        have HF := Lib.hid hfit
        clear hfit
        go_enter Try.func12, Try.ntmps12
        go_wp2_with (first | (go_at_call 20; refine (none_at _ _ _ c2).mono ?_; rintro e w' ⟨rfl, rfl⟩) | (go_at_call 19; refine HF.out.mono ?_; rintro e w' ⟨n, rfl, rfl⟩))
        go_ret
        exact ⟨rfl, HA.out, Fr.drewN _ _ _⟩
      · have hres : resF total L id need = (0, ins id need (del id L)) := by simp [resF, h1, h2, h3]
        rw [hres]
        have e3 : decide (need ≤ total - sum L) = true := by simp; omega
        rw [e3] at hfit
        have HF := Lib.hid hfit
        clear hfit
        have hwf : (Lit.int .u64 need).wf = true := wf_u64 hn
        go_enter Try.func12, Try.ntmps12
        go_wp2_with (first | (go_at_call 20; refine (none_at _ _ _ c2).mono ?_; rintro e w' ⟨rfl, rfl⟩) | (go_at_call 19; refine HF.out.mono ?_; rintro e w' ⟨n, rfl, rfl⟩) | (at_mapUpdate; refine wpList_mapUpdate_in _ rfl _ _ _ 52 rfl 3 22 law3 Try.underlying52 _ bm L.length (mk L) rfl HA.out.2 hlen _ _ _ rfl rfl hkey _ [] (plainElem_int Try.underlying22 hwf) ?_; intro w1 hown1 hturn1; have HT := Lib.hid (HA.out.turned hturn1); clear hturn1) | (go_at_call 23; refine (add_calls b 1 (sum L) need _ (cell_of_heap HT.out.1 rfl) (free_of_heap HT.out.1 (by simp)) (by omega) (by unfold U64 at hn; omega)).mono ?_; rintro e w' ⟨rfl, rfl⟩))
        go_ret
        have hd : del id L = L := del_out (look_pos HO.out.pos h2)
        have hD : (mk L).put (.int .i64 id) (.lit (.int .u64 need)) = mk (ins id need (del id L)) := mk_put _ _ _
        have := LedgerAt.wrote HT.out.1 HT.out.2 hown1 hD HA.out.ne
        rw [hd, sum_ins, show need + sum L = sum L + need by omega] at this
        rw [hd]
        exact ⟨rfl, this⟩
/-- What Release answers, and leaves. -/
def relF (L : List Ent) (id : Int) : Int × List Ent := if Ma.look L id = 0 then (4, L) else (0, del id L)
theorem release_at (b bm : Nat) (total id : Int) (L : List Ent) (w : World) (h : LedgerAt w b bm total L) (hok : Ok total L) (ht : total ≤ 18446744073709551615) (hid : I64 id) :
    Calls Try.prog 10 #[.pointer (some ⟨b, 0, none⟩), .int .i64 id] w fun e w' => e = .returned (.int .i64 (relF L id).1) ∧ LedgerAt w' b bm total (relF L id).2 ∧ Fr (fun k => k = b ∨ k = bm) w w' := by
  have c1 := h.c1
  have c2 := h.c2
  have f1 := h.f1
  have hl := h.look hid
  have hp := look_le hok.pos id
  have hs := sum_nonneg hok.pos
  have hle := hok.le
  have hdel := Lib.hid (sum_del hok.rising id)
  have HA := Lib.hid h
  have HO := Lib.hid hok
  have hkey := keyOf_int_mk Try.underlying3 hid
  clear h hok
  by_cases h1 : Ma.look L id = 0
  · have : relF L id = (4, L) := by simp [relF, h1]
    rw [this]
    rw [h1] at hl
    clear h1 hp
    go_enter Try.func10, Try.ntmps10
    go_wp2_with (first | (go_at_call 20; refine (none_at _ _ _ c2).mono ?_; rintro e w' ⟨rfl, rfl⟩))
    go_ret
    exact ⟨rfl, HA.out, Fr.refl _ _⟩
  · have : relF L id = (0, del id L) := by simp [relF, h1]
    rw [this]
    have e1 : (Ma.look L id == 0) = false := by simpa using h1
    go_enter Try.func10, Try.ntmps10
    go_wp2_with (first | (go_at_call 20; refine (none_at _ _ _ c2).mono ?_; rintro e w' ⟨rfl, rfl⟩))
    refine region_tail 14 (by kernel_rfl) (by kernel_rfl) fun wd hwd => ?_
    simp only [List.take_succ_cons, List.take_zero, List.drop_succ_cons, List.drop_zero]
    have hfr : Fr (fun k => k = b ∨ k = bm) w wd := by rw [hwd]; exact Fr.drewN _ w 1
    have HD : LedgerAt wd b bm total L := by rw [hwd]; exact HA.out
    clear hwd
    have d1 := HD.c1
    have d2 := HD.c2
    have df := HD.f1
    have dl := HD.look hid
    have HDx := Lib.hid HD
    have hfx := Lib.hid hfr
    clear HD hfr c1 c2 f1 hl
    repeat still_step
    still_call (still_eq (load_calls _ _ _ _ d1))
    repeat still_step
    refine wpStill_nil ?_
    go_wp2_with (first | (go_at_call 21; refine (store_calls b 1 (sum L) _ _ d1 df).mono ?_; rintro e w' ⟨rfl, rfl⟩) | (at_delete; refine wpList_delete_own _ rfl _ _ 52 3 rfl 22 law3 Try.underlying52 _ bm L.length (mk L) rfl (HDx.out.2.setCell HDx.out.ne _) _ _ rfl hkey ?_; intro w1 hown1 hturn1; have HT := Lib.hid hturn1; clear hturn1))
    go_ret
    have hfin := HDx.out.gone hown1 (mk_del id L) (by have := hdel.out; omega) HT.out
    exact ⟨rfl, hfin.1, hfx.out.trans hfin.2⟩
end Go.Proofs.Ytdgjhnamfgpgeaa.Led
