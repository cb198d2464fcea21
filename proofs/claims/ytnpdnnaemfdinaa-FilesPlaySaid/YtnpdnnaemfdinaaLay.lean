/- Laying files: what the list of files is then. Conditions: those that each theorem names. -/
import Derived.Test.YtnpdnnaemfdinaaNam
namespace Go.Proofs.Ytnpdnnaemfdinaa.F
open Go.RowKit Go.Maps Go.Sort Go.Shelf
open Go.Proofs.Ytnpdnnaemfdinaa.Ma
set_option linter.unusedVariables false
set_option linter.unusedSimpArgs false
theorem before_lt : ∀ (a b : List UInt8), bytesBefore a b = true ↔ a < b
  | [], [] => by simp [bytesBefore]
  | [], _ :: _ => by simp [bytesBefore]
  | _ :: _, [] => by simp [bytesBefore]
  | a :: r, b :: s => by
    rw [bytesBefore, List.cons_lt_cons_iff]
    simp [before_lt r s]
theorem nm_inj {s t : ByteArray} (h : nm s = nm t) : s = t := by
  obtain ⟨⟨d⟩⟩ := s
  obtain ⟨⟨e⟩⟩ := t
  simp [nm] at h
  rw [h]
theorem ins_perm (x : En) : ∀ (L : List En), (ins x L).Perm (x :: L)
  | [] => List.Perm.refl _
  | y :: r => by
    unfold ins
    split
    · exact List.Perm.refl _
    · exact ((ins_perm x r).cons y).trans (List.Perm.swap x y r)
theorem mem_ins {x p : En} {L : List En} : p ∈ ins x L ↔ p = x ∨ p ∈ L := by rw [(ins_perm x L).mem_iff, List.mem_cons]
theorem rise_ins {x : En} : ∀ {L : List En}, Rising L → (∀ p ∈ L, nm p.1 ≠ nm x.1) → Rising (ins x L)
  | [], _, _ => List.pairwise_singleton _ _
  | y :: r, h, hn => by
    rw [Rising, List.pairwise_cons] at h
    unfold ins
    split
    · rename_i hb
      have hb := (before_lt _ _).1 hb
      refine List.pairwise_cons.2 ⟨fun z hz => ?_, List.pairwise_cons.2 h⟩
      rcases List.mem_cons.1 hz with rfl | hz
      · exact hb
      · exact List.lt_trans hb (h.1 z hz)
    · rename_i hb
      have hyx : nm y.1 < nm x.1 := by
        rcases WideAt.bytes_total (nm x.1) (nm y.1) (fun e => hn y List.mem_cons_self e.symm) with h1 | h1
        · exact absurd h1 hb
        · exact (before_lt _ _).1 h1
      refine List.pairwise_cons.2 ⟨fun z hz => ?_, rise_ins h.2 (fun p hp => hn p (List.mem_cons_of_mem _ hp))⟩
      rcases mem_ins.1 hz with rfl | hz
      · exact hyx
      · exact h.1 z hz
theorem mem_del {s : ByteArray} {p : En} {L : List En} : p ∈ del s L ↔ p ∈ L ∧ nm p.1 ≠ nm s := by
  unfold del
  rw [List.mem_filter]
  simp
theorem rise_del {s : ByteArray} {L : List En} (h : Rising L) : Rising (del s L) := h.filter _
theorem pages_ins (x : En) (L : List En) : pagesOf (ins x L) = x.2.2.length + pagesOf L := by
  unfold pagesOf
  rw [((ins_perm x L).map _).sum_nat]
  simp
theorem pages_del {s : ByteArray} : ∀ {L : List En}, Rising L → pagesOf (del s L) + (look L s).2.length = pagesOf L
  | [], _ => rfl
  | y :: r, h => by
    rw [Rising, List.pairwise_cons] at h
    by_cases hy : nm y.1 = nm s
    · have e1 : del s (y :: r) = r := by
        unfold del
        rw [List.filter_cons_of_neg (by simp [hy]), List.filter_eq_self]
        intro p hp
        simp only [Bool.not_eq_true', beq_eq_false_iff_ne, ne_eq]
        intro e
        have := h.1 p hp
        rw [hy, e] at this
        exact List.lt_irrefl _ this
      have e2 : look (y :: r) s = y.2 := by
        unfold look
        rw [List.find?_cons_of_pos (by rw [hy]; exact beq_self_eq_true _)]
      rw [e1, e2]
      simp [pagesOf]
      omega
    · have e1 : del s (y :: r) = y :: del s r := by
        unfold del
        rw [List.filter_cons_of_pos (by rw [Bool.not_eq_true', beq_eq_false_iff_ne]; exact hy)]
      have e2 : look (y :: r) s = look r s := by
        unfold look
        rw [List.find?_cons_of_neg (by rw [beq_iff_eq]; exact hy)]
      rw [e1, e2]
      have := pages_del (s := s) h.2
      simp [pagesOf] at this ⊢
      omega
section
variable {B : Nat} {w w' : World} {b bm : Nat} {room left : Int} {L : List En}
theorem FsAt.turn (h : FsAt B w b bm room left L) (s : ByteArray) (v : Value) (P : List ByteArray) (n : Nat) (hblk : w'.heap[b]? = w.heap[b]?) (hown : w'.ownsMap Try.prog 9 hd bm n (F.mk (ins (s, v, P) (del s L))))
    (hrows : ∀ p ∈ del s L, w'.ownsRow B 9 1 p.2.1 p.2.2.length (p.2.2.map Value.string)) (hrow : w'.ownsRow B 9 1 v P.length (P.map Value.string)) (hP : P ≠ [])
    (hap : ∀ p ∈ del s L, ∀ g, p.2.1.ownBlock = some g → v.ownBlock ≠ some g) (hsm : pagesOf (del s L) + P.length ≤ 4096) (hnm : nameOk s = true) (hfull : ∀ x ∈ P, x.size = 128) :
    FsAt B w' b bm room left (ins (s, v, P) (del s L)) := by
  have hsym : ∀ {p q : En}, (∀ g, p.2.1.ownBlock = some g → q.2.1.ownBlock ≠ some g) → ∀ g, q.2.1.ownBlock = some g → p.2.1.ownBlock ≠ some g := fun h g hg e => h g e hg
  refine ⟨hblk.trans h.blk, ?_, fun p hp => ?_, ?_, rise_ins (rise_del h.rise) (fun p hp => (mem_del.1 hp).2), h.at_, ?_, fun p hp => ?_, fun p hp => ?_⟩
  · have := ownsMap_tight hown
    rwa [mk_size] at this
  · rcases mem_ins.1 hp with rfl | hp
    · exact ⟨hrow, hP⟩
    · exact ⟨hrows p hp, (h.rows p (mem_del.1 hp).1).2⟩
  · refine ((ins_perm (s, v, P) (del s L)).pairwise_iff hsym).2 ?_
    exact List.pairwise_cons.2 ⟨fun p hp => hsym (hap p hp), h.apart.filter _⟩
  · rw [pages_ins]; show P.length + _ ≤ _; omega
  · rcases mem_ins.1 hp with rfl | hp
    · exact hnm
    · exact h.names p (mem_del.1 hp).1
  · rcases mem_ins.1 hp with rfl | hp
    · exact hfull
    · exact h.full p (mem_del.1 hp).1
theorem FsAt.gone (h : FsAt B w b bm room left L) (s : ByteArray) (n : Nat) (hblk : w'.heap[b]? = w.heap[b]?) (hown : w'.ownsMap Try.prog 9 hd bm n (F.mk (del s L)))
    (hrows : ∀ p ∈ del s L, w'.ownsRow B 9 1 p.2.1 p.2.2.length (p.2.2.map Value.string)) : FsAt B w' b bm room left (del s L) := by
  refine ⟨hblk.trans h.blk, ?_, fun p hp => ⟨hrows p hp, (h.rows p (mem_del.1 hp).1).2⟩, h.apart.filter _, rise_del h.rise, h.at_, ?_, fun p hp => h.names p (mem_del.1 hp).1, fun p hp => h.full p (mem_del.1 hp).1⟩
  · have := ownsMap_tight hown
    rwa [mk_size] at this
  · have := pages_del (s := s) h.rise
    have := h.small
    omega
theorem fr_turned {w w' : World} {k : Nat} (h : w.mapTurned w' k) : Fr (fun i => i = k) w w' := Fr.of_grown h.grown
theorem own_lt {w : World} {B n : Nat} {e : TypeId} {k : Nat} {v : Value} {xs : List Value} (h : w.ownsRow B e k v n xs) {g : Nat} (hg : v.ownBlock = some g) : g < w.heap.size ∧ ∃ cs T fz, w.heap[g]? = some (.cells cs T fz) := by
  rcases h.2 with ⟨rfl, _⟩ | ⟨g', cap, cur, rfl, _, hh, _⟩
  · cases hg
  · cases hg
    exact ⟨lt_of_heap hh, _, _, _, hh⟩
theorem FsAt.not_map (h : FsAt B w b bm room left L) {v : Value} {n : Nat} {xs : List Value} {e : TypeId} {k : Nat} (hr : w.ownsRow B e k v n xs) : ∀ g, v.ownBlock = some g → ¬ g = bm := by
  rintro g hg rfl
  obtain ⟨_, cs, T, fz, hh⟩ := own_lt hr hg
  obtain ⟨es, clock, h2, _⟩ := h.own
  rw [hh] at h2
  cases h2
theorem FsAt.not_box (h : FsAt B w b bm room left L) {v : Value} {n : Nat} {xs : List Value} (hr : w.ownsRow B 9 1 v n xs) : ∀ g, v.ownBlock = some g → ¬ g = b := by
  rintro g hg rfl
  rcases hr.2 with ⟨rfl, _⟩ | ⟨g', cap, cur, rfl, _, hh, _⟩
  · cases hg
  · cases hg
    rw [h.blk] at hh
    cases hh
set_option maxRecDepth 100000 in
/-- lay, with pages. -/
theorem lay_put (h : FsAt B w b bm room left L) (s : ByteArray) (hs : nameOk s = true) (v : Value) (P : List ByteArray) (hP : P ≠ []) (hrow : w.ownsRow B 9 1 v P.length (P.map Value.string))
    (hap : ∀ p ∈ del s L, ∀ g, p.2.1.ownBlock = some g → v.ownBlock ≠ some g) (hsm : pagesOf (del s L) + P.length ≤ 4096) (hfull : ∀ x ∈ P, x.size = 128) :
    Calls Try.prog 40 #[.pointer (some ⟨b, 0, none⟩), .string s, v] w fun e w' => e = .returned (.tuple #[]) ∧ FsAt B w' b bm room left (ins (s, v, P) (del s L)) ∧ Fr (fun k => k = bm) w w' := by
  obtain ⟨A, c, hv, hc, hcm⟩ := row_open encS_len (by rw [← cellsS] at hrow; exact hrow)
  have c2 := h.c2
  have hlen := h.count
  have hkey := WideMaps.keyOf_string_mk Try.underlying9 (name_size hs)
  have hn0 : ¬ (P.length : Int) = 0 := by
    have := List.length_pos_iff.2 hP
    omega
  have hnm : RowKit.Hid (∀ w', w'.ownsMap Try.prog 9 hd bm (L.length + 1) ((F.mk L).put (.string (nm s)) (.held v)) → w.mapTurned w' bm → FsAt B w' b bm room left (ins (s, v, P) (del s L)) ∧ Fr (fun k => k = bm) w w') := Lib.hid (by
    intro w' hown hturn
    have hf := fr_turned hturn
    refine ⟨h.turn s v P _ ?_ (by have := mk_put (s, v, P) L; rw [this] at hown; exact hown) (fun p hp => hf.row (h.rows p (mem_del.1 hp).1).1 (h.not_map (h.rows p (mem_del.1 hp).1).1)) (hf.row hrow (h.not_map hrow)) hP hap hsm hs hfull, hf⟩
    exact hf.block b h.lt (fun e => h.ne e.symm))
  have HO := Lib.hid h.own
  subst hv
  generalize P.length = n at hn0 hc hnm ⊢
  clear h hrow hap hsm hfull hP
  go_enter Try.func40, Try.ntmps40
  go_wp2_with (at_mapUpdate; refine wpList_mapUpdate_in _ rfl _ _ _ 53 rfl 9 28 law9 Try.underlying53 _ bm L.length (F.mk L) rfl HO.out (by unfold maxLen; omega) _ _ _ rfl rfl hkey _ [] rfl ?_; intro w1 hown1 hturn1)
  go_end0
  exact ⟨rfl, hnm.out _ hown1 hturn1⟩
theorem lay_del (h : FsAt B w b bm room left L) (s : ByteArray) (hs : s.size ≤ maxLen) (A : Option Addr) (c : Nat) :
    Calls Try.prog 40 #[.pointer (some ⟨b, 0, none⟩), .string s, .slice A 0 c] w fun e w' => e = .returned (.tuple #[]) ∧ FsAt B w' b bm room left (del s L) ∧ Fr (fun k => k = bm) w w' := by
  have c2 := h.c2
  have hkey := WideMaps.keyOf_string_mk Try.underlying9 hs
  have hnm : RowKit.Hid (∀ w', w'.ownsMap Try.prog 9 hd bm L.length ((F.mk L).del (.string (nm s))) → w.mapTurned w' bm → FsAt B w' b bm room left (del s L) ∧ Fr (fun k => k = bm) w w') := Lib.hid (by
    intro w' hown hturn
    have hf := fr_turned hturn
    refine ⟨h.gone s _ ?_ (by rw [mk_del] at hown; exact hown) (fun p hp => hf.row (h.rows p (mem_del.1 hp).1).1 (h.not_map (h.rows p (mem_del.1 hp).1).1)), hf⟩
    exact hf.block b h.lt (fun e => h.ne e.symm))
  have HO := Lib.hid h.own
  clear h
  go_enter Try.func40, Try.ntmps40
  go_wp2_with (at_delete; refine wpList_delete_own _ rfl _ _ 53 9 rfl 28 law9 Try.underlying53 _ bm L.length (F.mk L) rfl HO.out _ _ rfl hkey ?_; intro w1 hown1 hturn1)
  simp only [Act.put]
  exact bodyPost_ret (v := .tuple #[]) (by simp [results, Try.f40, go_sem]) rfl ⟨rfl, hnm.out _ hown1 hturn1⟩
end
end Go.Proofs.Ytnpdnnaemfdinaa.F
