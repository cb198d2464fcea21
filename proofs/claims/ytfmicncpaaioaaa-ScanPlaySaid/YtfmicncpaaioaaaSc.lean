/- What the scan's functions do, each once: a scan lies in memory as how many shards, where it is, and a map of who is attached. Conditions: those that each theorem names. -/
import Derived.WalkKit
import Derived.OwnWalk
import Derived.Maps.OwnSet
import Derived.Maps.AppendAt
import Derived.Deep.AppendLies
import Derived.Deep.QuietTactic
import Derived.BigQuiet
import Derived.WalkSpells
import Derived.Deep.RegionWith
import Derived.StillTailTactics
import Derived.Lib.Hide
import Derived.Shelf.SlIterI.Nil
import Derived.Shelf.SortM.Plain
import Derived.Shelf.SortM.SortNone
import Derived.Test.YtfmicncpaaioaaaShelf
import Derived.Test.YtfmicncpaaioaaaProg
import Derived.Test.YtfmicncpaaioaaaMa
import Derived.Test.YtfmicncpaaioaaaMst
namespace Go.Proofs.Ytfmicncpaaioaaa.Sc
open Go.RowKit Go.Maps Go.Sort Go.Shelf
open Go.Proofs.Ytfmicncpaaioaaa.Ma
set_option linter.unusedVariables false
set_option linter.unusedSimpArgs false
theorem law3 : Keyed Try.prog 3 := int_keyed Try.underlying3
theorem zero4 (w : World) : (zeroValue 4).run Try.prog w = .ok (.bool false) w := by kernel_rfl
abbrev I64 (x : Int) : Prop := (Lit.int .i64 x).wf = true
theorem quiet_eq {P : Program} {f : FuncId} {args : Array Value} {w : World} {n : Nat} {v : Value}
    (h : Calls P f args (w.drewN n) fun e w' => e = .returned v ∧ w.drewN n = w') : Calls P f args (w.drewN n) fun e w'' => e = .returned v ∧ ∃ m, w'' = w.drewN m :=
  h.mono fun _ _ ⟨he, hm⟩ => ⟨he, n, hm.symm⟩
theorem still_eq {P : Program} {f : FuncId} {args : Array Value} {w : World} {v : Value}
    (h : Calls P f args w fun e w' => e = .returned v ∧ w = w') : Calls P f args w fun e w'' => e = .returned v ∧ w'' = w := h.mono fun _ _ ⟨he, hm⟩ => ⟨he, hm.symm⟩
theorem region_tail {P : Program} {id : Nat} {Q : Exit → Act → World → Prop} {a : Act} {w : World} {l : List Oper} (n : Nat) (hm : P.follows .mixedOrders = true) (hB : Region.lexTailB .any l.toArray n = true)
    (h : ∀ wd : World, wd = w.drew → wpStill P l.toArray wd (fun a' => wpList P l.toArray Q (l.drop n) a' wd) (l.take n) a) : (Code.region id l.toArray true).wp P Q a w :=
  wp_region_still_tail n hm hB (h w.drew rfl)
/-- A scan of so many shards, at one of them, in block b; its map in block bm. -/
def ScanAt (w : World) (b bm : Nat) (n at_ : Int) (L : List Ent) : Prop :=
  w.heap[b]? = some (.cells #[.int .i64 n, .int .i64 at_, .map (some bm)] 47 (0, 0)) ∧ w.ownsMap Try.prog 3 (plainElem Try.prog 4) bm L.length (mk L)
section
variable {w : World} {b bm : Nat} {n at_ : Int} {L : List Ent}
theorem ScanAt.c0 (h : ScanAt w b bm n at_ L) : w.cell? ⟨b, 0, none⟩ = some (.int .i64 n) := cell_of_heap h.1 rfl
theorem ScanAt.c1 (h : ScanAt w b bm n at_ L) : w.cell? ⟨b, 1, none⟩ = some (.int .i64 at_) := cell_of_heap h.1 rfl
theorem ScanAt.c2 (h : ScanAt w b bm n at_ L) : w.cell? ⟨b, 2, none⟩ = some (.map (some bm)) := cell_of_heap h.1 rfl
theorem ScanAt.f1 (h : ScanAt w b bm n at_ L) : w.frozen? ⟨b, 1, none⟩ = false := free_of_heap h.1 (by simp)
theorem ScanAt.ne (h : ScanAt w b bm n at_ L) : bm ≠ b := by
  rintro rfl
  obtain ⟨h1, es, clock, h2, _⟩ := h
  rw [h1] at h2
  cases h2
theorem ScanAt.kept {S : Nat → Prop} {w' : World} (h : ScanAt w b bm n at_ L) (hf : Fr S w w') (hb : ¬ S b) (hm : ¬ S bm) : ScanAt w' b bm n at_ L := ⟨hf.keep h.1 hb, hf.map h.2 hm⟩
theorem bool_inv {v : Value} {x : Bool} {ps : List MemPlace} (h : plainElem (H := Unit) Try.prog 4 v = some (.lit (.bool x), ps)) : v = .bool x := by
  unfold plainElem at h
  rw [Try.underlying4] at h
  cases v <;> simp at h
  obtain ⟨rfl, _⟩ := h
  rfl
theorem ScanAt.look2 (h : ScanAt w b bm n at_ L) {id : Int} (hid : I64 id) :
    (Instr.lookup 45 (.map (some bm)) (.int .i64 id) true).run Try.prog w = .ok (.tuple #[.bool (Ma.look L id), .bool (Ma.has L id)]) w := by
  obtain ⟨v, ps, hrun, hv⟩ := h.2.look_ok law3 Try.underlying45 (zero4 _) (plainElem_bool Try.underlying4 false) (keyOf_int_mk Try.underlying3 hid)
  rw [mk_at] at hv
  rw [mk_has, bool_inv hv] at hrun
  exact hrun
theorem ScanAt.look1 (h : ScanAt w b bm n at_ L) {id : Int} (hid : I64 id) :
    (Instr.lookup 45 (.map (some bm)) (.int .i64 id) false).run Try.prog w = .ok (.bool (Ma.look L id)) w := by
  obtain ⟨v, ps, hrun, hv⟩ := h.2.lookup law3 Try.underlying45 (zero4 _) (plainElem_bool Try.underlying4 false) (keyOf_int_mk Try.underlying3 hid)
  rw [mk_at] at hv
  rw [bool_inv hv] at hrun
  exact hrun
theorem ScanAt.turned {w1 : World} {L' : List Ent} {m : Nat} {D : DataW Unit} (h : ScanAt w b bm n at_ L) (hown : w1.ownsMap Try.prog 3 (plainElem Try.prog 4) bm m D) (hD : D = mk L') (ht : w.mapTurned w1 bm) :
    ScanAt w1 b bm n at_ L' ∧ Fr (fun k => k = b ∨ k = bm) w w1 := by
  subst hD
  have hf : Fr (fun k => k = bm) w w1 := Fr.of_grown ht.grown
  refine ⟨⟨hf.keep h.1 (fun e => h.ne e.symm), ?_⟩, hf.mono (fun _ h => .inr h)⟩
  have := ownsMap_tight hown
  rwa [mk_size] at this
end
/-! ### none, At -/
def IsNone (w : World) (p : Option Addr) : Prop := p = none ∨ ∃ b, p = some ⟨b, 0, none⟩ ∧ w.cell? ⟨b, 0, none⟩ = some (.int .i64 0)
theorem none_true (p : Option Addr) (w : World) (h : IsNone w p) : Calls Try.prog 24 #[.pointer p] w fun e w' => e = .returned (.bool true) ∧ w = w' := by
  rcases h with rfl | ⟨b, rfl, c⟩
  all_goals
    go_enter Try.func24, Try.ntmps24
    go_wp2
    go_ret
    exact ⟨rfl, rfl⟩
theorem none_at (b : Nat) (n : Int) (w : World) (c : w.cell? ⟨b, 0, none⟩ = some (.int .i64 n)) (hn : 0 < n) : Calls Try.prog 24 #[.pointer (some ⟨b, 0, none⟩)] w fun e w' => e = .returned (.bool false) ∧ w = w' := by
  have e0 : (n == 0) = false := by simpa using (show n ≠ 0 by omega)
  go_enter Try.func24, Try.ntmps24
  go_wp2
  go_ret
  exact ⟨rfl, rfl⟩
theorem at_at (b bm : Nat) (n at_ : Int) (L : List Ent) (w : World) (h : ScanAt w b bm n at_ L) (hn : 0 < n) : Calls Try.prog 21 #[.pointer (some ⟨b, 0, none⟩)] w fun e w' => e = .returned (.int .i64 at_) ∧ w = w' := by
  have c0 := h.c0
  have c1 := h.c1
  clear h
  go_enter Try.func21, Try.ntmps21
  go_wp2_with (go_at_call 24; refine (none_at _ _ _ c0 hn).mono ?_; rintro e w' ⟨rfl, rfl⟩)
  go_ret
  exact ⟨rfl, rfl⟩
theorem new_at (n : Int) (w : World) (h0 : 1 ≤ n) (h1 : n ≤ 16) :
    Calls Try.prog 9 #[.int .i64 n] w fun e w' => ∃ b bm, e = .returned (.tuple #[.pointer (some ⟨b, 0, none⟩), .int .i64 0]) ∧ w.heap.size ≤ b ∧ w.heap.size ≤ bm ∧ ScanAt w' b bm n (-1) [] ∧ Below w.heap.size w w' := by
  have hmm := @run_makeMap Try.prog
  go_enter Try.func9, Try.ntmps9
  go_wp2
  go_ret2
  refine ⟨_, w.heap.size, rfl, ?_, Nat.le_refl _, ⟨?_, ?_⟩, ?_⟩
  · omega
  · have h1 := heap_alloc_new (w.alloc (.map #[] 0)) (.cells #[.int .i64 n, .int .i64 (-1), .map (some w.heap.size)] 47)
    simpa using h1
  · exact (World.ownsMap_made w Try.prog 3 (plainElem Try.prog 4)).alloc _
  · exact ((Below.refl _ _).alloc (Nat.le_refl _) _).alloc (by simp) _
theorem new_bad (n : Int) (w : World) (h : n < 1 ∨ 16 < n) : Calls Try.prog 9 #[.int .i64 n] w fun e w' => e = .returned (.tuple #[.pointer none, .int .i64 2]) ∧ w = w' := by
  by_cases h1 : n < 1
  · go_enter Try.func9, Try.ntmps9
    go_wp2
    go_ret2
    exact ⟨rfl, rfl⟩
  · have h2 : 16 < n := by omega
    go_enter Try.func9, Try.ntmps9
    go_wp2
    go_ret2
    exact ⟨rfl, rfl⟩
/-! ### who joins, leaves, is served -/
def askF (L : List Ent) (id : Int) : Int := if Ma.has L id = true then 0 else 4
theorem ask_at (b bm : Nat) (n at_ id : Int) (L : List Ent) (w : World) (h : ScanAt w b bm n at_ L) (hn : 0 < n) (hid : I64 id) : Calls Try.prog 26 #[.pointer (some ⟨b, 0, none⟩), .int .i64 id] w fun e w' => e = .returned (.int .i64 (askF L id)) ∧ Below w.heap.size w w' := by
  have c0 := h.c0
  have c2 := h.c2
  have hl := fun (o : Obj) => ScanAt.look2 (h.kept (Fr.alloc w o) (fun e => e) (fun e => e)) hid
  have hl0 := h.look2 hid
  cases hh : Ma.has L id
  · rw [show askF L id = 4 by simp [askF, hh]]
    rw [hh] at hl0
    simp only [hh] at hl
    clear hh h
    go_enter Try.func26, Try.ntmps26
    go_wp2_with (go_at_call 24; refine (none_at _ _ _ c0 hn).mono ?_; rintro e w' ⟨rfl, rfl⟩)
    go_ret
    exact ⟨rfl, by first | exact Below.refl _ _ | exact (Below.refl _ _).alloc (Nat.le_refl _) _⟩
  · rw [show askF L id = 0 by simp [askF, hh]]
    rw [hh] at hl0
    simp only [hh] at hl
    clear hh h
    go_enter Try.func26, Try.ntmps26
    go_wp2_with (go_at_call 24; refine (none_at _ _ _ c0 hn).mono ?_; rintro e w' ⟨rfl, rfl⟩)
    go_ret
    exact ⟨rfl, by first | exact Below.refl _ _ | exact (Below.refl _ _).alloc (Nat.le_refl _) _⟩
def attF (L : List Ent) (id : Int) : Int × List Ent := if Ma.has L id = true then (2, L) else if L.length = 4 then (230, L) else (0, ins id false L)
def detF (L : List Ent) (id : Int) : Int × List Ent := if Ma.has L id = true then (0, del id L) else (4, L)
def serF (L : List Ent) (id : Int) : Int × List Ent := if Ma.has L id = true ∧ Ma.look L id = true then (0, setK id false L) else (4, L)
theorem attach_at (b bm : Nat) (n at_ id : Int) (L : List Ent) (w : World) (h : ScanAt w b bm n at_ L) (hok : Ok L) (hn : 0 < n) (hid : I64 id) : Calls Try.prog 11 #[.pointer (some ⟨b, 0, none⟩), .int .i64 id] w fun e w' => e = .returned (.int .i64 (attF L id).1) ∧ ScanAt w' b bm n at_ (attF L id).2 ∧ Fr (fun k => k = b ∨ k = bm) w w' := by
  have c0 := h.c0
  have c2 := h.c2
  have HA := Lib.hid h
  have HO := Lib.hid hok
  have hlen := hok.len
  have hkey := keyOf_int_mk Try.underlying3 hid
  have hl0 := h.look2 hid
  have hln := h.2.len Try.underlying45 3
  rw [mk_size] at hln
  cases hh : Ma.has L id
  · rw [hh] at hl0
    have HH := Lib.hid hh
    by_cases h4 : L.length = 4
    · rw [show attF L id = (230, L) by simp [attF, hh, h4]]
      have e4 : ((L.length : Int) == 4) = true := by simp; omega
      clear h hok hh h4
      go_enter Try.func11, Try.ntmps11
      go_wp2_with (first | (go_at_call 24; refine (none_at _ _ _ c0 hn).mono ?_; rintro e w' ⟨rfl, rfl⟩))
      go_ret
      exact ⟨rfl, HA.out, Fr.refl _ _⟩
    · rw [show attF L id = (0, ins id false L) by simp [attF, hh, h4]]
      have e4 : ((L.length : Int) == 4) = false := by simp; omega
      clear h hok hh
      go_enter Try.func11, Try.ntmps11
      go_wp2_with (first | (go_at_call 24; refine (none_at _ _ _ c0 hn).mono ?_; rintro e w' ⟨rfl, rfl⟩) | (at_mapUpdate; refine wpList_mapUpdate_in _ rfl _ _ _ 45 rfl 3 4 law3 Try.underlying45 _ bm L.length (mk L) rfl HA.out.2 (by unfold maxLen; omega) _ _ _ rfl rfl hkey _ [] (plainElem_bool Try.underlying4 false) ?_; intro w1 hown1 hturn1))
      go_ret
      have hD : (mk L).put (.int .i64 id) (.lit (.bool false)) = mk (ins id false L) := by rw [mk_put, del_out (has_false.1 HH.out)]
      exact ⟨rfl, HA.out.turned hown1 hD hturn1⟩
  · rw [show attF L id = (2, L) by simp [attF, hh]]
    rw [hh] at hl0
    clear h hok hh
    go_enter Try.func11, Try.ntmps11
    go_wp2_with (first | (go_at_call 24; refine (none_at _ _ _ c0 hn).mono ?_; rintro e w' ⟨rfl, rfl⟩))
    go_ret
    exact ⟨rfl, HA.out, Fr.refl _ _⟩
theorem detach_at (b bm : Nat) (n at_ id : Int) (L : List Ent) (w : World) (h : ScanAt w b bm n at_ L) (hn : 0 < n) (hid : I64 id) : Calls Try.prog 13 #[.pointer (some ⟨b, 0, none⟩), .int .i64 id] w fun e w' => e = .returned (.int .i64 (detF L id).1) ∧ ScanAt w' b bm n at_ (detF L id).2 ∧ Fr (fun k => k = b ∨ k = bm) w w' := by
  have hask := ask_at b bm n at_ id L w h hn hid
  have HA := Lib.hid h
  have hb := lt_of_heap h.1
  have hbm := h.2.lt
  have hkey := keyOf_int_mk Try.underlying3 hid
  have c2 := h.c2
  cases hh : Ma.has L id
  · rw [show askF L id = 4 by simp [askF, hh]] at hask
    rw [show detF L id = (4, L) by simp [detF, hh]]
    have HK := Lib.hid hask
    clear h hh hask
    go_enter Try.func13, Try.ntmps13
    go_wp2_with (go_at_call 26; refine HK.out.mono ?_; rintro e w1 ⟨rfl, hb1⟩)
    go_ret
    exact ⟨rfl, HA.out.kept (Fr.of_below hb1) (fun e => e) (fun e => e), (Fr.of_below hb1).mono (fun _ h => h.elim)⟩
  · rw [show askF L id = 0 by simp [askF, hh]] at hask
    rw [show detF L id = (0, del id L) by simp [detF, hh]]
    have HK := Lib.hid hask
    clear h hh hask
    go_enter Try.func13, Try.ntmps13
    go_wp2_with (first | (go_at_call 26; refine HK.out.mono ?_; rintro e w1 ⟨rfl, hb1⟩; have h1 := HA.out.kept (Fr.of_below hb1) (fun e => e) (fun e => e); have d2 := h1.c2; have H1 := Lib.hid h1; have HB1 := Lib.hid hb1; clear h1 hb1) | (at_delete; refine wpList_delete_own _ rfl _ _ 45 3 rfl 4 law3 Try.underlying45 _ bm L.length (mk L) rfl H1.out.2 _ _ rfl hkey ?_; intro w2 hown2 hturn2))
    go_ret
    have hfin := H1.out.turned hown2 (mk_del id L) hturn2
    exact ⟨rfl, hfin.1, ((Fr.of_below HB1.out).mono (fun _ h => h.elim)).trans hfin.2⟩
theorem serve_at (b bm : Nat) (n at_ id : Int) (L : List Ent) (w : World) (h : ScanAt w b bm n at_ L) (hok : Ok L) (hn : 0 < n) (hid : I64 id) : Calls Try.prog 15 #[.pointer (some ⟨b, 0, none⟩), .int .i64 id] w fun e w' => e = .returned (.int .i64 (serF L id).1) ∧ ScanAt w' b bm n at_ (serF L id).2 ∧ Fr (fun k => k = b ∨ k = bm) w w' := by
  have hask := ask_at b bm n at_ id L w h hn hid
  have HA := Lib.hid h
  have HO := Lib.hid hok
  have hkey := keyOf_int_mk Try.underlying3 hid
  have hlen := hok.len
  cases hh : Ma.has L id
  · rw [show askF L id = 4 by simp [askF, hh]] at hask
    rw [show serF L id = (4, L) by simp [serF, hh]]
    have HK := Lib.hid hask
    clear h hh hask hok
    go_enter Try.func15, Try.ntmps15
    go_wp2_with (go_at_call 26; refine HK.out.mono ?_; rintro e w1 ⟨rfl, hb1⟩)
    go_ret
    exact ⟨rfl, HA.out.kept (Fr.of_below hb1) (fun e => e) (fun e => e), (Fr.of_below hb1).mono (fun _ h => h.elim)⟩
  · rw [show askF L id = 0 by simp [askF, hh]] at hask
    have HK := Lib.hid hask
    have HH := Lib.hid hh
    cases hlk : Ma.look L id
    · rw [show serF L id = (4, L) by simp [serF, hlk]]
      have HL := Lib.hid hlk
      clear h hh hask hok hlk
      go_enter Try.func15, Try.ntmps15
      go_wp2_with (first | (go_at_call 26; refine HK.out.mono ?_; rintro e w1 ⟨rfl, hb1⟩; have h1 := HA.out.kept (Fr.of_below hb1) (fun e => e) (fun e => e); have d2 := h1.c2; have dl := h1.look1 hid; rw [HL.out] at dl; have H1 := Lib.hid h1; have HB1 := Lib.hid hb1; clear h1 hb1))
      go_ret
      exact ⟨rfl, H1.out, (Fr.of_below HB1.out).mono (fun _ h => h.elim)⟩
    · rw [show serF L id = (0, setK id false L) by simp [serF, hlk, hh]]
      have HL := Lib.hid hlk
      clear h hh hask hok hlk
      go_enter Try.func15, Try.ntmps15
      go_wp2_with (first | (go_at_call 26; refine HK.out.mono ?_; rintro e w1 ⟨rfl, hb1⟩; have h1 := HA.out.kept (Fr.of_below hb1) (fun e => e) (fun e => e); have d2 := h1.c2; have dl := h1.look1 hid; rw [HL.out] at dl; have H1 := Lib.hid h1; have HB1 := Lib.hid hb1; clear h1 hb1) | (at_mapUpdate; refine wpList_mapUpdate_in _ rfl _ _ _ 45 rfl 3 4 law3 Try.underlying45 _ bm L.length (mk L) rfl H1.out.2 (by unfold maxLen; omega) _ _ _ rfl rfl hkey _ [] (plainElem_bool Try.underlying4 false) ?_; intro w2 hown2 hturn2))
      go_ret
      have hD : (mk L).put (.int .i64 id) (.lit (.bool false)) = mk (setK id false L) := by rw [mk_put, ins_del HO.out.rising HH.out]
      have hfin := H1.out.turned hown2 hD hturn2
      exact ⟨rfl, hfin.1, ((Fr.of_below HB1.out).mono (fun _ h => h.elim)).trans hfin.2⟩
end Go.Proofs.Ytfmicncpaaioaaa.Sc
