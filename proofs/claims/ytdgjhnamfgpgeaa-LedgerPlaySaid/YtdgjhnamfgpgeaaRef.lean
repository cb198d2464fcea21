/- What the document's ledger does, each function once: it lies as its total and a list of who has how much, rising. Conditions: those that each theorem names. -/
import Derived.Maps.AppendAt
import Derived.Laws.OwnMore
import Derived.Deep.AppendLies
import Derived.Test.YtdgjhnamfgpgeaaSum
namespace Go.Proofs.Ytdgjhnamfgpgeaa.Led
open Go.RowKit Go.Maps
open Go.Proofs.Ytdgjhnamfgpgeaa.Ma
set_option linter.unusedVariables false
set_option linter.unusedSimpArgs false
def cellsOf (L : List Ent) : List Value := L.flatMap fun p => [Value.int .i64 p.1, Value.int .u64 p.2]
theorem cellsOf_length (L : List Ent) : (cellsOf L).length = L.length * 2 := by
  induction L with
  | nil => rfl
  | cons y r ih => simp only [cellsOf, List.flatMap_cons, List.length_append, List.length_cons, List.length_nil] at ih ⊢; omega
theorem cellsOf_append (L M : List Ent) : cellsOf (L ++ M) = cellsOf L ++ cellsOf M := by simp [cellsOf]
theorem cellsOf_at {L : List Ent} : ∀ {j : Nat} {p : Ent}, L[j]? = some p → (cellsOf L)[j * 2]? = some (.int .i64 p.1) ∧ (cellsOf L)[j * 2 + 1]? = some (.int .u64 p.2) := by
  induction L with
  | nil => intro j p h; simp at h
  | cons y r ih =>
    intro j p h
    cases j with
    | zero => simp at h; subst h; simp [cellsOf]
    | succ j =>
      have := ih (j := j) (p := p) (by simpa using h)
      rw [show (j + 1) * 2 = j * 2 + 1 + 1 by omega]
      simpa [cellsOf] using this
/-- The document's ledger: in block rb, its list in memory from B on. -/
def RefAt (B : Nat) (w : World) (rb : Nat) (total : Int) (L : List Ent) (v : Value) : Prop :=
  w.heap[rb]? = some (.cells #[.int .u64 total, v] 43 (0, 0)) ∧ w.ownsRow B 45 2 v L.length (cellsOf L)
theorem RefAt.c0 {B : Nat} {w : World} {rb : Nat} {total : Int} {L : List Ent} {v : Value} (h : RefAt B w rb total L v) : w.cell? ⟨rb, 0, none⟩ = some (.int .u64 total) := cell_of_heap h.1 rfl
theorem RefAt.c1 {B : Nat} {w : World} {rb : Nat} {total : Int} {L : List Ent} {v : Value} (h : RefAt B w rb total L v) : w.cell? ⟨rb, 1, none⟩ = some v := cell_of_heap h.1 rfl
theorem RefAt.f1 {B : Nat} {w : World} {rb : Nat} {total : Int} {L : List Ent} {v : Value} (h : RefAt B w rb total L v) : w.frozen? ⟨rb, 1, none⟩ = false := free_of_heap h.1 (by simp)
theorem row_cells {B : Nat} {w : World} {L : List Ent} {v : Value} (h : w.ownsRow B 45 2 v L.length (cellsOf L)) :
    ∃ A c, v = .slice A L.length c ∧ L.length ≤ c ∧ c ≤ 9223372036854775807 ∧ (A = none → L = [] ∧ c = 0) ∧ ∀ a, A = some a → ∃ g, a = ⟨g, 0, none⟩ ∧ B ≤ g ∧ g < w.heap.size ∧ (∃ cur, w.heap[g]? = some (.cells cur 45 (0, 0))) ∧ ∀ j p, L[j]? = some p → w.cell? ⟨g, j * 2, none⟩ = some (.int .i64 p.1) ∧ w.cell? ⟨g, j * 2 + 1, none⟩ = some (.int .u64 p.2) := by
  rcases h.2 with ⟨rfl, hn⟩ | ⟨g, cap, cur, rfl, hb, hg, hc, hm, hcs, hcur⟩
  · refine ⟨none, 0, by rw [hn], by omega, by omega, fun _ => ⟨List.length_eq_zero_iff.1 hn, rfl⟩, fun a ha => by cases ha⟩
  · refine ⟨_, cap, rfl, hc, by unfold maxLen at hm; omega, (fun e => by cases e), fun a ha => ?_⟩
    cases ha
    refine ⟨g, rfl, hb, lt_of_heap hg, ⟨cur, hg⟩, fun j p hp => ?_⟩
    have hj := (List.getElem?_eq_some_iff.1 hp).1
    have e := cellsOf_at hp
    rw [← hcur, List.getElem?_take_of_lt (by omega), List.getElem?_take_of_lt (by omega)] at e
    exact ⟨cell_of_heap hg (by simpa using e.1), cell_of_heap hg (by simpa using e.2)⟩
theorem RefAt.ne {B : Nat} {w : World} {rb : Nat} {total : Int} {L : List Ent} {v : Value} (h : RefAt B w rb total L v) : ∀ g, v.ownBlock = some g → g ≠ rb := by
  rintro g hg rfl
  rcases h.2.2 with ⟨rfl, hn⟩ | ⟨g', cap, cur, rfl, hb, hg', _⟩
  · simp [Value.ownBlock] at hg
  · simp [Value.ownBlock] at hg
    subst hg
    rw [h.1] at hg'
    cases hg'
theorem RefAt.kept {S : Nat → Prop} {B : Nat} {w w' : World} {rb : Nat} {total : Int} {L : List Ent} {v : Value} (h : RefAt B w rb total L v) (hf : Fr S w w') (hb : ¬ S rb) (hv : ∀ g, v.ownBlock = some g → ¬ S g) : RefAt B w' rb total L v := ⟨hf.keep h.1 hb, hf.row h.2 hv⟩
theorem ret_u {a b : Int} (h : a = b) : Ending.returned (.int .u64 a) = .returned (.int .u64 b) := by rw [h]
theorem look_take {L : List Ent} {j : Nat} {p : Ent} (hp : L[j]? = some p) (h : ∀ q ∈ L.take j, q.1 ≠ p.1) : Ma.look L p.1 = p.2 := by
  induction L generalizing j with
  | nil => simp at hp
  | cons y r ih =>
    rw [look_cons]
    cases j with
    | zero => simp at hp; subst hp; simp
    | succ j =>
      rw [if_neg (h y (by simp))]
      exact ih (by simpa using hp) (fun q hq => h q (by simp [hq]))
theorem rnew_at (total : Int) (w : World) (h0 : 0 < total) (B : Nat) :
    Calls Try.prog 9 #[.int .u64 total] w fun e w' => e = .returned (.tuple #[.pointer (some ⟨w.heap.size, 0, none⟩), .int .i64 0]) ∧ RefAt B w' w.heap.size total [] (.slice none 0 0) ∧ Below w.heap.size w w' := by
  have ht : (total == 0) = false := by simpa using (show total ≠ 0 by omega)
  go_enter Try.func9, Try.ntmps9
  go_wp2
  go_ret2
  exact ⟨rfl, ⟨heap_alloc_new w _, World.ownsRow_nil _ _ _ _⟩, (Below.refl _ _).alloc (Nat.le_refl _) _⟩
theorem rnew_bad (w : World) : Calls Try.prog 9 #[.int .u64 0] w fun e w' => e = .returned (.tuple #[.pointer none, .int .i64 2]) ∧ w = w' := by
  go_enter Try.func9, Try.ntmps9
  go_wp2
  go_ret2
  exact ⟨rfl, rfl⟩
theorem rheld_at (B rb : Nat) (total id : Int) (L : List Ent) (v : Value) (w : World) (h : RefAt B w rb total L v) :
    Calls Try.prog 16 #[.pointer (some ⟨rb, 0, none⟩), .int .i64 id] w fun e w' => e = .returned (.int .u64 (Ma.look L id)) ∧ w = w' := by
  obtain ⟨A, c, rfl, hc, hcm, hn, hA⟩ := row_cells h.2
  have c1 := h.c1
  have HN := Lib.hid hn
  have HA := Lib.hid hA
  clear h hn hA
  go_enter Try.func16, Try.ntmps16
  go_wp2
  go_loop [5] (fun i => ∃ j : Nat, j ≤ L.length ∧ i = .int .i64 j ∧ ∀ q ∈ L.take j, q.1 ≠ id) (fun i => L.length - (intOf i).toNat)
  case atStart => exact ⟨0, by omega, rfl, fun q hq => by simp at hq⟩
  case round =>
    obtain ⟨j, hj, rfl, hq⟩ := hrel
    have HQ := Lib.hid hq
    clear hq
    by_cases hlt : j < L.length
    · obtain ⟨⟨x, y⟩, hx⟩ : ∃ p, L[j]? = some p := ⟨L[j], List.getElem?_eq_getElem _⟩
      obtain ⟨a, rfl⟩ : ∃ a, A = some a := by
        cases A with
        | none => have := (HN.out rfl).1; rw [this] at hlt; simp at hlt
        | some a => exact ⟨a, rfl⟩
      obtain ⟨g, rfl, _, _, _, hcell⟩ := HA.out a rfl
      obtain ⟨d0, d1⟩ := hcell j _ hx
      have HX := Lib.hid hx
      clear hx hcell
      by_cases he : x = id
      · have e1 : (x == id) = true := by simpa using he
        have HE := Lib.hid he
        clear he
        go_wp2
        go_ret
        have : Ma.look L id = y := by
          have h2 := HQ.out
          rw [← HE.out] at h2 ⊢
          exact look_take HX.out h2
        exact ⟨ret_u this.symm, rfl⟩
      · have e1 : (x == id) = false := by simpa using he
        go_wp2
        go_round
        case rel =>
          refine ⟨j + 1, by omega, by go_num, fun q hq => ?_⟩
          rw [List.take_add_one, HX.out] at hq
          simp only [Option.toList_some, List.mem_append, List.mem_singleton] at hq
          rcases hq with hq | rfl
          · exact HQ.out q hq
          · exact he
        case measure => simp [intOf]; omega
    · obtain rfl : j = L.length := by omega
      go_wp2
      go_ret
      have : Ma.look L id = 0 := look_out (fun p hp => HQ.out p (by rwa [List.take_length]))
      exact ⟨ret_u this.symm, rfl⟩
theorem rleft_at (B rb : Nat) (total : Int) (L : List Ent) (v : Value) (w : World) (h : RefAt B w rb total L v) (hok : Ok total L) (ht : total ≤ 18446744073709551615) :
    Calls Try.prog 18 #[.pointer (some ⟨rb, 0, none⟩)] w fun e w' => e = .returned (.int .u64 (total - sum L)) ∧ w = w' := by
  obtain ⟨A, c, rfl, hc, hcm, hn, hA⟩ := row_cells h.2
  have c0 := h.c0
  have c1 := h.c1
  have HN := Lib.hid hn
  have HA := Lib.hid hA
  have HO := Lib.hid hok
  have hle := hok.le
  clear h hn hA hok
  go_enter Try.func18, Try.ntmps18
  go_wp2
  go_loop [3, 4] (fun s i => ∃ j : Nat, j ≤ L.length ∧ i = .int .i64 j ∧ s = .int .u64 (total - sum (L.take j))) (fun _ i => L.length - (intOf i).toNat)
  case atStart => exact ⟨0, by omega, rfl, by simp [sum]⟩
  case round =>
    obtain ⟨j, hj, rfl, rfl⟩ := hrel
    have s1 := sum_take_le HO.out.pos j
    by_cases hlt : j < L.length
    · obtain ⟨⟨x, y⟩, hx⟩ : ∃ p, L[j]? = some p := ⟨L[j], List.getElem?_eq_getElem _⟩
      obtain ⟨a, rfl⟩ : ∃ a, A = some a := by
        cases A with
        | none => have := (HN.out rfl).1; rw [this] at hlt; simp at hlt
        | some a => exact ⟨a, rfl⟩
      obtain ⟨g, rfl, _, _, _, hcell⟩ := HA.out a rfl
      obtain ⟨d0, d1⟩ := hcell j _ hx
      have s2 := sum_take_le HO.out.pos (j + 1)
      have s3 := sum_take_succ hx
      have s4 : 0 < y := HO.out.pos _ (List.mem_of_getElem? hx)
      have s5 : sum (L.take j) + y ≤ total := by simp only at s3; omega
      have S3 := Lib.hid s3
      clear hx hcell s3 s2
      go_wp2
      go_round
      case rel => exact ⟨j + 1, by omega, by go_num, by rw [S3.out]; congr 1; omega⟩
      case measure => simp [intOf]; omega
    · obtain rfl : j = L.length := by omega
      go_wp2
      go_ret
      exact ⟨rfl, rfl⟩
theorem info45 : (Try.prog.info? 45).map (fun i => (i.zero, i.size, i.bytes)) = some (some (.agg #[.int .i64 0, .int .u64 0]), 2, 16) := by kernel_rfl
theorem RefAt.store {B : Nat} {w w1 : World} {rb : Nat} {total : Int} {L L' : List Ent} {v v' : Value} (h : RefAt B w rb total L v) (hf : Fr (fun _ => False) w w1) (hrow : w1.ownsRow w.heap.size 45 2 v' L'.length (cellsOf L')) (hB : B ≤ w.heap.size) :
    RefAt B (w1.setCell ⟨rb, 1, none⟩ v') rb total L' v' ∧ Fr (fun k => k = rb) w (w1.setCell ⟨rb, 1, none⟩ v') := by
  have h1 := hf.keep h.1 (fun e => e)
  have hlt := lt_of_heap h.1
  refine ⟨⟨by rw [heap_setCell_at h1]; rfl, (Fr.setCell w1 ⟨rb, 1, none⟩ v').row (ownsRow_base_a (base' := B) hrow hB) (fun g hg e => ?_)⟩, (hf.mono (fun _ h => h.elim)).trans (Fr.setCell w1 ⟨rb, 1, none⟩ v')⟩
  have := (hrow.lt g hg).1
  have e' : g = rb := e
  omega
theorem rrel_at (B rb : Nat) (total id : Int) (L : List Ent) (v : Value) (w : World) (h : RefAt B w rb total L v) (hB : B ≤ w.heap.size) (hlen : L.length ≤ 1000000) :
    Calls Try.prog 11 #[.pointer (some ⟨rb, 0, none⟩), .int .i64 id] w fun e w' => e = .returned (.int .i64 (relF L id).1) ∧ ∃ v', RefAt B w' rb total (relF L id).2 v' ∧ Fr (fun k => k = rb) w w' := by
  have hheld := rheld_at B rb total id L v w h
  have HR := Lib.hid h
  by_cases h0 : Ma.look L id = 0
  · have : relF L id = (4, L) := by simp [relF, h0]
    rw [this]
    rw [h0] at hheld
    clear h h0
    go_enter Try.func11, Try.ntmps11
    go_wp2_with (go_at_call 16; refine hheld.mono ?_; rintro e w' ⟨rfl, rfl⟩)
    go_ret
    exact ⟨rfl, v, HR.out, Fr.refl _ _⟩
  · have : relF L id = (0, del id L) := by simp [relF, h0]
    rw [this]
    have e0 : (Ma.look L id == 0) = false := by simpa using h0
    obtain ⟨A, c, rfl, hc, hcm, hn, hA⟩ := row_cells h.2
    have c1 := h.c1
    have f1 := h.f1
    have hrb := lt_of_heap h.1
    have HN := Lib.hid hn
    have HA := Lib.hid hA
    have HH := Lib.hid hheld
    clear h hn hA h0 hheld
    obtain ⟨i0, hi, hz0, hz1, hz2⟩ := info_parts info45
    go_enter Try.func11, Try.ntmps11
    go_wp2_with (go_at_call 16; refine HH.out.mono ?_; rintro e w' ⟨rfl, rfl⟩)
    go_loopw [5, 6] (fun s i wr => ∃ (j : Nat) (vo : Value), j ≤ L.length ∧ i = .int .i64 j ∧ s = vo ∧ wr.ownsRow w.heap.size 45 2 vo (del id (L.take j)).length (cellsOf (del id (L.take j))) ∧ Below w.heap.size w wr) (fun _ i _ => L.length - (intOf i).toNat)
    case atStart => exact ⟨0, .slice none 0 0, by omega, rfl, rfl, World.ownsRow_nil _ _ _ _, Below.refl _ _⟩
    case round =>
      obtain ⟨j, vo, hj, rfl, rfl, hrow, hb⟩ := hrel
      have d1 := (hb.cell (p := ⟨rb, 1, none⟩) hrb).trans c1
      have df := (hb.frozen (p := ⟨rb, 1, none⟩) hrb).trans f1
      by_cases hlt : j < L.length
      · obtain ⟨⟨x, y⟩, hx⟩ : ∃ p, L[j]? = some p := ⟨L[j], List.getElem?_eq_getElem _⟩
        obtain ⟨a, rfl⟩ : ∃ a, A = some a := by
          cases A with
          | none => have := (HN.out rfl).1; rw [this] at hlt; simp at hlt
          | some a => exact ⟨a, rfl⟩
        obtain ⟨g, rfl, _, hg, _, hcell⟩ := HA.out a rfl
        obtain ⟨k0, k1⟩ := hcell j _ hx
        have q0 := (hb.cell (p := ⟨g, j * 2, none⟩) hg).trans k0
        have q1 := (hb.cell (p := ⟨g, j * 2 + 1, none⟩) hg).trans k1
        have HX := Lib.hid hx
        have hdl := length_del_le (L.take j) id
        have htl : (L.take j).length ≤ j := List.length_take_le _ _
        clear hx hcell k0 k1
        by_cases he : x = id
        · have e1 : (x == id) = true := by simpa using he
          have e2 : (x != id) = false := by simpa using he
          have hd : del id (L.take (j + 1)) = del id (L.take j) := by
            rw [List.take_add_one, HX.out]
            simp only [Option.toList_some, del, List.filter_append, List.filter_cons, List.filter_nil, e1]
            simp
          have HD := Lib.hid hd
          clear he hd
          go_wp2
          go_roundw
          case rel => exact ⟨j + 1, _, by omega, by go_num, rfl, by rw [HD.out]; exact hrow, hb⟩
          case measure => simp [intOf]; omega
        · have e1 : (x == id) = false := by simpa using he
          have e2 : (x != id) = true := by simpa using he
          have hd : del id (L.take (j + 1)) = del id (L.take j) ++ [(x, y)] := by
            rw [List.take_add_one, HX.out]
            simp only [Option.toList_some, del, List.filter_append, List.filter_cons, List.filter_nil, e1]
            simp
          have HD := Lib.hid hd
          clear he hd
          go_wp2_with (at_builtin; refine wpList_append_own_at _ rfl _ _ 41 rfl w.heap.size 45 i0 _ 2 16 Try.underlying41 hi hz0 hz1 hz2 rfl (by omega) _ _ _ rfl (hrow.alloc _) ⟨wr.heap.size, 0, none⟩ 1 1 [.int .i64 x, .int .u64 y] rfl rfl (World.news_of_block (heap_alloc_new wr _)) (by simp [Value.oneCell']) (by unfold maxLen; omega) (by omega) (by have := hb.size; simp; omega) ?_; intro vo' w1 hown1 hgrow1 hnil1 hloc1)
          go_roundw
          case rel =>
            refine ⟨j + 1, _, by omega, by go_num, rfl, ?_, ?_⟩
            · rw [HD.out, List.length_append, cellsOf_append]
              exact hown1
            · exact (hb.alloc hb.size _).grown hgrow1 (by have := hb.size; simp; omega) (fun k hk => (hrow.lt k hk).1)
          case measure => simp [intOf]; omega
      · obtain rfl : j = L.length := by omega
        rw [List.take_length] at hrow
        obtain ⟨A', c', rfl, _, _, _, _⟩ := row_cells hrow
        go_wp2
        go_ret
        have hS := HR.out.store (Fr.of_below hb) hrow hB
        exact ⟨rfl, _, hS⟩
end Go.Proofs.Ytdgjhnamfgpgeaa.Led
