/- Put. Conditions: those that each theorem names. -/
import Derived.Deep.AppendLies
import Derived.Test.YtnpdnnaemfdinaaWri
namespace Go.Proofs.Ytnpdnnaemfdinaa.F
open Go.RowKit Go.Maps Go.Sort Go.Shelf
open Go.Proofs.Ytnpdnnaemfdinaa.Ma
set_option linter.unusedVariables false
set_option linter.unusedSimpArgs false
theorem info9 : (Try.prog.info? 9).map (fun i => (i.zero, i.size, i.bytes)) = some (some (.string ⟨#[]⟩), 1, 16) := by kernel_rfl
section
variable {w : World} {ops : Array Oper} {rest : List Oper} {o : Oper} {a : Act} {Q : Exit → Act → World → Prop}
theorem wp_appS (hgd : o.guard = none) (s x : Operand) (ho : o.op = .call { callee := .builtin .append, args := #[s, x], argTypes := #[28, 28] })
    (B : Nat) (L : List ByteArray) (n : Nat) (hn : L.length = n) (y : ByteArray) (R : List ByteArray) (hR : L ++ [y] = R) (v : Value) (hs : a.eval s = v) (hown : w.ownsRow B 9 1 v n (L.map Value.string))
    (b : Nat) (hx : a.eval x = .slice (some ⟨b, 0, none⟩) 1 1) (hb : w.heap[b]? = some (.cells #[.string y] 9 (0, 0))) (hlen : n ≤ 1000000) (hB : B ≤ w.heap.size)
    (h : ∀ A' c' w', w'.ownsRow B 9 1 (.slice A' (n + 1) c') R.length (R.map Value.string) → Fr (fun k => v.ownBlock = some k) w w' → (∀ g, (Value.slice A' (n + 1) c').ownBlock = some g → v.ownBlock = some g ∨ w.heap.size ≤ g) → wpList Try.prog ops Q rest (a.put o.dst (.slice A' (n + 1) c')) w') : wpList Try.prog ops Q (o :: rest) a w := by
  obtain ⟨i0, hi, hz0, hz1, hz2⟩ := info_parts info9
  subst hR hn
  refine wpList_append_own_at _ hgd s x 28 ho B 9 i0 _ 1 16 Try.underlying28 hi hz0 hz1 hz2 rfl (by decide) v L.length (L.map Value.string) hs hown ⟨b, 0, none⟩ 1 1 [.string y] hx rfl (World.news_of_block hb) (by simp [Value.oneCell']) (by unfold maxLen; omega) (by omega) hB ?_
  intro v' w' hr hg _ hl
  have e : L.map Value.string ++ [Value.string y] = (L ++ [y]).map Value.string := by simp
  rw [e] at hr
  obtain ⟨A', c', rfl, _, _⟩ := row_open encS_len (by rw [← cellsS] at hr; exact hr)
  refine h A' c' w' (by rw [List.length_append]; exact hr) (Fr.of_grownR hg) fun g hg => ?_
  rcases hl with e | e
  · exact .inl (e ▸ hg)
  · rw [e] at hg
    exact .inr (by cases hg; exact Nat.le_refl _)
end
theorem before_asymm {a b : List UInt8} (h : a < b) : ¬ bytesBefore b a = true := fun e => List.lt_irrefl _ (List.lt_trans h ((before_lt _ _).1 e))
theorem ins_del {q : En} : ∀ {L : List En}, Rising L → q ∈ L → ins q (del q.1 L) = L
  | [], _, h => by cases h
  | y :: r, h, hq => by
    rw [Rising, List.pairwise_cons] at h
    by_cases hy : nm y.1 = nm q.1
    · have e0 : q = y := by
        rcases List.mem_cons.1 hq with e | hq
        · exact e
        · have := h.1 q hq
          rw [hy] at this
          exact absurd this (List.lt_irrefl _)
      subst e0
      have e1 : del q.1 (q :: r) = r := by
        unfold del
        rw [List.filter_cons_of_neg (by simp), List.filter_eq_self]
        intro p hp
        simp only [Bool.not_eq_true', beq_eq_false_iff_ne, ne_eq]
        intro e
        have := h.1 p hp
        rw [e] at this
        exact List.lt_irrefl _ this
      rw [e1]
      cases r with
      | nil => rfl
      | cons z t =>
        unfold ins
        rw [if_pos ((before_lt _ _).2 (h.1 z List.mem_cons_self))]
    · have hq2 : q ∈ r := by
        rcases List.mem_cons.1 hq with e | hq
        · exact absurd (by rw [e]) hy
        · exact hq
      have e1 : del q.1 (y :: r) = y :: del q.1 r := by
        unfold del
        rw [List.filter_cons_of_pos (by rw [Bool.not_eq_true', beq_eq_false_iff_ne]; exact hy)]
      rw [e1]
      unfold ins
      rw [if_neg (before_asymm (h.1 q hq2)), ins_del h.2 hq2]
theorem datF_ins {q : En} {L : List En} (h : Rising L) (hq : q ∈ L) (P : List ByteArray) : F.mk (ins (q.1, q.2.1, P) (del q.1 L)) = F.mk L := by
  have e : (ins (q.1, q.2.1, P) (del q.1 L)).map datF = (ins q (del q.1 L)).map datF := by rw [← insert_mk, ← insert_mk]; rfl
  unfold F.mk
  rw [e, ins_del h hq]
theorem look_mem {L : List En} {s : ByteArray} (h : (F.look L s).2 ≠ []) : ∃ q ∈ L, q.1 = s ∧ F.look L s = q.2 := by
  unfold F.look at h ⊢
  cases hf : L.find? (fun p => nm p.1 == nm s) with
  | none => rw [hf] at h; exact absurd rfl h
  | some q =>
    have := List.find?_some hf
    exact ⟨q, List.mem_of_find?_eq_some hf, nm_inj (by simpa using this), rfl⟩
section
variable {X : Nat → Prop} {B : Nat} {w : World} {b bm : Nat} {room left : Int} {L : List En}
theorem FsAt.alone (h : FsAt B w b bm room left L) {q p : En} (hq : q ∈ L) (hp : p ∈ del q.1 L) : ∀ g, p.2.1.ownBlock = some g → q.2.1.ownBlock ≠ some g := by
  have hp1 := (mem_del.1 hp).1
  have hne := (mem_del.1 hp).2
  obtain ⟨i, hi, rfl⟩ := List.mem_iff_getElem.1 hp1
  obtain ⟨j, hj, rfl⟩ := List.mem_iff_getElem.1 hq
  rcases Nat.lt_trichotomy i j with hlt | rfl | hlt
  · exact List.pairwise_iff_getElem.1 h.apart i j hi hj hlt
  · exact absurd rfl hne
  · intro g hg e
    exact List.pairwise_iff_getElem.1 h.apart j i hj hi hlt g e hg
theorem FsAt.put_in (h : FsAt B w b bm room left L) {s : ByteArray} {j : Nat} {x y : ByteArray} (hy : (F.look L s).2[j]? = some y) (hsz : x.size = 128) :
    ∃ g c, (F.look L s).1 = .slice (some ⟨g, 0, none⟩) (F.look L s).2.length c ∧ (F.look L s).2.length ≤ c ∧ c ≤ 9223372036854775807 ∧ w.cell? ⟨g, j, none⟩ = some (.string y) ∧ w.frozen? ⟨g, j, none⟩ = false ∧ g < w.heap.size ∧ (∃ q ∈ L, q.2.1.ownBlock = some g) ∧
      ∀ w1, Below w.heap.size w w1 → FsAt B (w1.setCell ⟨g, j, none⟩ (.string x)) b bm room left (ins (s, (F.look L s).1, (F.look L s).2.set j x) (del s L)) ∧ Fr (fun k => k = g) w (w1.setCell ⟨g, j, none⟩ (.string x)) := by
  have hne : (F.look L s).2 ≠ [] := by
    intro e
    rw [e] at hy
    cases hy
  obtain ⟨q, hq, rfl, e⟩ := look_mem hne
  rw [e] at hy ⊢
  obtain ⟨g, c, e1, _, hg, hc, hcm, q0, q1⟩ := row_s (h.rows q hq).1 hy
  have hgo : q.2.1.ownBlock = some g := by rw [e1]; rfl
  refine ⟨g, c, e1, hc, hcm, q0, q1, hg, ⟨q, hq, hgo⟩, fun w1 hb => ?_⟩
  have h1 := h.below hb
  have hf := Fr.setCell w1 ⟨g, j, none⟩ (.string x)
  have hgm : ¬ bm = g := fun e => h.not_map (h.rows q hq).1 g hgo e.symm
  have hgb : ¬ b = g := fun e => h.not_box (h.rows q hq).1 g hgo e.symm
  refine ⟨h1.turn q.1 q.2.1 _ L.length (hf.block b h1.lt hgb) (by rw [datF_ins h.rise hq]; exact hf.map h1.own hgm) (fun p hp => hf.row (h1.rows p (mem_del.1 hp).1).1 (fun g' hg' e' => by
      have e2 : g' = g := e'
      subst e2
      exact h.alone hq hp g' hg' hgo)) ?_ (by
      intro e3
      exact (h.rows q hq).2 (by simpa using e3)) (fun p hp => h.alone hq hp) ?_ (h.names q hq) (fun z hz => ?_), ((Fr.of_below hb).mono (fun _ e => e.elim)).trans hf⟩
  · have h3 := (h1.rows q hq).1
    rw [← cellsS, e1] at h3
    have h4 := row_set (i := 0) (y := x) (u := .string x) encS_len h3 hy (by omega) rfl
    rw [Nat.mul_one, Nat.add_zero, cellsS] at h4
    rw [List.length_set, e1]
    exact h4
  · have := pages_del (s := q.1) h.rise
    have := h.small
    rw [e] at *
    rw [List.length_set]
    omega
  · rcases List.mem_or_eq_of_mem_set hz with hz | rfl
    · exact h.full q hq z hz
    · exact hsz
end
theorem FsX.laidS {X S : Nat → Prop} {w w2 : World} {b bm : Nat} {room left : Int} {L : List En} (h : FsX X w b bm room left (dn L)) (hX : ∀ p ∈ L, ∀ g, p.2.1.ownBlock = some g → ¬ X g) (s : ByteArray) (v : Value) (P : List ByteArray) (hP : P ≠ [])
    (hv : ∀ g, v.ownBlock = some g → ¬ X g) (h2 : FsAt 0 w2 b bm room left (ins (s, v, P) (del s L))) (hf : Fr S w w2) (hS : ∀ k, S k → ¬ X k) (hroom : (pagesOf (del s L) : Int) + P.length ≤ room) :
    FsX X w2 b bm room left (setD s P (dn L)) ∧ Fr (fun k => ¬ X k) w w2 := by
  have hd : dn (ins (s, v, P) (del s L)) = setD s P (dn L) := by rw [dn_ins, dn_del]; unfold setD; rw [if_neg hP]
  refine ⟨⟨⟨_, h2, fun p hp g hg => ?_, hd⟩, h.nb, h.nbm, fun k hk => Nat.lt_of_lt_of_le (h.low k hk) hf.size, ⟨?_, h.rm.2⟩, h.lf⟩, hf.mono hS⟩
  · rcases mem_ins.1 hp with rfl | hp
    · exact hv g hg
    · exact hX p (mem_del.1 hp).1 g hg
  · rw [← hd, pages_dn, pages_ins]
    show ((P.length + pagesOf (del s L) : Nat) : Int) ≤ room
    omega
set_option maxRecDepth 100000 in
/-- lay, with pages, behind what has turned the file's own row. -/
theorem lay_put2 {S : Nat → Prop} {w0 w : World} {B b bm : Nat} {room left : Int} {L : List En} (h : FsAt B w0 b bm room left L) (hfr : Fr S w0 w) (hSb : ¬ S b) (hSm : ¬ S bm) (s : ByteArray) (hSd : ∀ p ∈ del s L, ∀ g, p.2.1.ownBlock = some g → ¬ S g) (hs : nameOk s = true) (v : Value) (P : List ByteArray) (hP : P ≠ []) (hrow : w.ownsRow B 9 1 v P.length (P.map Value.string))
    (hap : ∀ p ∈ del s L, ∀ g, p.2.1.ownBlock = some g → v.ownBlock ≠ some g) (hsm : pagesOf (del s L) + P.length ≤ 4096) (hfull : ∀ x ∈ P, x.size = 128) :
    Calls Try.prog 40 #[.pointer (some ⟨b, 0, none⟩), .string s, v] w fun e w' => e = .returned (.tuple #[]) ∧ FsAt B w' b bm room left (ins (s, v, P) (del s L)) ∧ Fr (fun k => k = bm) w w' := by
  obtain ⟨A, c, hv, hc, hcm⟩ := row_open encS_len (by rw [← cellsS] at hrow; exact hrow)
  have c2 := hfr.cell h.c2 h.lt hSb
  have hlen := h.count
  have hkey := WideMaps.keyOf_string_mk Try.underlying9 (name_size hs)
  have hn0 : ¬ (P.length : Int) = 0 := by
    have := List.length_pos_iff.2 hP
    omega
  have hown0 := hfr.map h.own hSm
  have hnvm : ∀ g, v.ownBlock = some g → ¬ g = bm := by
    rintro g hg rfl
    obtain ⟨_, cs, T, fz, hh⟩ := own_lt hrow hg
    obtain ⟨es, clock, h2, _⟩ := hown0
    rw [hh] at h2
    cases h2
  have hnm : RowKit.Hid (∀ w', w'.ownsMap Try.prog 9 hd bm (L.length + 1) ((F.mk L).put (.string (nm s)) (.held v)) → w.mapTurned w' bm → FsAt B w' b bm room left (ins (s, v, P) (del s L)) ∧ Fr (fun k => k = bm) w w') := Lib.hid (by
    intro w' hown hturn
    have hf := fr_turned hturn
    refine ⟨h.turn s v P _ ?_ (by have := mk_put (s, v, P) L; rw [this] at hown; exact hown) (fun p hp => hf.row (hfr.row (h.rows p (mem_del.1 hp).1).1 (hSd p hp)) (h.not_map (h.rows p (mem_del.1 hp).1).1)) (hf.row hrow hnvm) hP hap hsm hs hfull, hf⟩
    exact (hf.block b (Nat.lt_of_lt_of_le h.lt hfr.size) (fun e => h.ne e.symm)).trans (hfr.block b h.lt hSb))
  have HO := Lib.hid hown0
  subst hv
  generalize P.length = n at hn0 hc hnm ⊢
  clear h hrow hap hsm hfull hP hown0 hnvm hfr
  go_enter Try.func40, Try.ntmps40
  go_wp2_with (at_mapUpdate; refine wpList_mapUpdate_in _ rfl _ _ _ 53 rfl 9 28 law9 Try.underlying53 _ bm L.length (F.mk L) rfl HO.out (by unfold maxLen; omega) _ _ _ rfl rfl hkey _ [] rfl ?_; intro w1 hown1 hturn1)
  go_end0
  exact ⟨rfl, hnm.out _ hown1 hturn1⟩
set_option maxRecDepth 100000 in
set_option maxHeartbeats 2000000 in
theorem x_put {X : Nat → Prop} {w : World} {b bm : Nat} {room left : Int} {D : List De} (s : ByteArray) (hs : s.size ≤ maxLen) (i : Int) (x : ByteArray) (h : FsX X w b bm room left D) :
    Calls Try.prog 17 #[.pointer (some ⟨b, 0, none⟩), .string s, .int .i64 i, .string x] w fun e w' => e = .returned (.int .i64 (putF room D s i x).1) ∧ FsX X w' b bm room left (putF room D s i x).2 ∧ Fr (fun k => ¬ X k) w w' := by
  obtain ⟨nk, hnk⟩ : ∃ q, nameOk s = q := ⟨_, rfl⟩
  have c2 := h.c2
  have hrm := h.rm
  have HX := Lib.hid h
  have HN := Lib.hid (name_at s w hs)
  have HNK := Lib.hid hnk
  obtain ⟨L, h1, h2, rfl⟩ := h.ex
  have H1 := Lib.hid h1
  have H2 := Lib.hid h2
  have hll := HX.out.look_le s
  have hl := h1.look hs
  obtain ⟨A, c, hA, hc1, hc2⟩ := found_slice h1 s
  rw [hA] at hl
  have HA := Lib.hid hA
  have HPG := Lib.hid (fun W => page_at x W)
  have hk := lookD_dn L s
  obtain ⟨k, hk1⟩ : ∃ k, (lookD (dn L) s).length = k := ⟨_, rfl⟩
  rw [← hk, hk1] at hl hc1
  rw [hk1] at hll
  have HK := Lib.hid hk1
  rw [hnk] at HN
  clear hnk h h1 h2 hA hk
  unfold putF
  rw [HNK.out]
  cases nk
  · rw [if_pos (.inl rfl)]
    clear hk1
    go_enter Try.func17, Try.ntmps17
    go_wp2_with (first
      | (go_at_call 36; refine (none_at _ _ _ c2).mono ?_; rintro e w' ⟨rfl, rfl⟩)
      | (go_at_call 16; refine HN.out.mono ?_; rintro e w1 ⟨rfl, hb1⟩; have HB1 := Lib.hid hb1; clear hb1))
    go_ret
    exact ⟨rfl, HX.out.below HB1.out, (Fr.of_below HB1.out).mono (fun _ e => e.elim)⟩
  by_cases hi0 : i < 0
  · rw [if_pos (.inr (.inl hi0))]
    have hd : decide (i < 0) = true := decide_eq_true hi0
    clear hk1
    go_enter Try.func17, Try.ntmps17
    go_wp2_with (first
      | (go_at_call 36; refine (none_at _ _ _ c2).mono ?_; rintro e w' ⟨rfl, rfl⟩)
      | (go_at_call 16; refine HN.out.mono ?_; rintro e w1 ⟨rfl, hb1⟩; have HB1 := Lib.hid hb1; clear hb1))
    go_ret
    exact ⟨rfl, HX.out.below HB1.out, (Fr.of_below HB1.out).mono (fun _ e => e.elim)⟩
  have hd0 : decide (i < 0) = false := decide_eq_false hi0
  by_cases hi1 : (k : Int) < i
  · rw [if_pos (.inr (.inr (.inl (by rw [HK.out]; exact hi1))))]
    have hd : decide ((k : Int) < i) = true := decide_eq_true hi1
    clear hk1
    go_enter Try.func17, Try.ntmps17
    go_wp2_with (first
      | (go_at_call 36; refine (none_at _ _ _ c2).mono ?_; rintro e w' ⟨rfl, rfl⟩)
      | (go_at_call 16; refine HN.out.mono ?_; rintro e w1 ⟨rfl, hb1⟩; have HB1 := Lib.hid hb1; clear hb1))
    go_ret
    exact ⟨rfl, HX.out.below HB1.out, (Fr.of_below HB1.out).mono (fun _ e => e.elim)⟩
  have hd1 : decide ((k : Int) < i) = false := decide_eq_false hi1
  by_cases hx : x.size = 128
  case neg =>
    rw [if_pos (.inr (.inr (.inr hx)))]
    rw [show decide (x.size = 128) = false by simpa using hx] at HPG
    clear hk1 hx
    go_enter Try.func17, Try.ntmps17
    go_wp2_with (first
      | (go_at_call 36; refine (none_at _ _ _ c2).mono ?_; rintro e w' ⟨rfl, rfl⟩)
      | (go_at_call 39; refine (HPG.out _).mono ?_; rintro e w' ⟨rfl, rfl⟩)
      | (go_at_call 16; refine HN.out.mono ?_; rintro e w1 ⟨rfl, hb1⟩; have HB1 := Lib.hid hb1; clear hb1))
    go_ret
    exact ⟨rfl, HX.out.below HB1.out, (Fr.of_below HB1.out).mono (fun _ e => e.elim)⟩
  rw [show decide (x.size = 128) = true by simpa using hx] at HPG
  rw [if_neg (by rw [HK.out]; rintro (e | e | e | e) <;> first | cases e | contradiction)]
  have HXZ := Lib.hid hx
  clear hx
  by_cases hlt : i < (k : Int)
  · rw [if_pos (by rw [HK.out]; exact hlt)]
    obtain ⟨j, rfl⟩ : ∃ j : Nat, i = (j : Int) := ⟨i.toNat, by omega⟩
    have hjl : j < (lookD (dn L) s).length := by rw [hk1]; omega
    obtain ⟨y, hy⟩ : ∃ y, (F.look L s).2[j]? = some y := by rw [← lookD_dn]; exact ⟨_, List.getElem?_eq_getElem hjl⟩
    obtain ⟨g, c', e1, _, _, q0, q1, hg, hq, hput⟩ := H1.out.put_in hy HXZ.out
    rw [HA.out] at e1
    cases e1
    have HPI := Lib.hid hput
    have HG := Lib.hid hg
    have HQ := Lib.hid hq
    have HQ0 := Lib.hid q0
    have HQ1 := Lib.hid q1
    have HY := Lib.hid hy
    clear hjl hk1 hput hg hq q0 q1 hy hd0 hi0
    rw [Int.toNat_natCast]
    go_enter Try.func17, Try.ntmps17
    go_wp2_with (first
      | (go_at_call 36; refine (none_at _ _ _ c2).mono ?_; rintro e w' ⟨rfl, rfl⟩)
      | (go_at_call 39; refine (HPG.out _).mono ?_; rintro e w' ⟨rfl, rfl⟩)
      | (go_at_call 16; refine HN.out.mono ?_; rintro e w1 ⟨rfl, hb1⟩; have HB1 := Lib.hid hb1; have p0 := (hb1.cell (p := ⟨g, j, none⟩) HG.out).trans HQ0.out; have p1 := (Fr.of_below hb1).frozen HQ1.out HG.out (fun e => e); clear hb1))
    go_ret
    obtain ⟨f1, f2⟩ := HPI.out w1 HB1.out
    have hpd := pages_del (s := s) H1.out.rise
    have hrm2 := HX.out.rm.1
    rw [pages_dn] at hrm2
    obtain ⟨q, hq, hgo⟩ := HQ.out
    have := FsX.laidS HX.out H2.out s _ _ (by
      intro e3
      have h3 := HY.out
      have e4 : (F.look L s).2 = [] := by simpa using e3
      rw [e4] at h3
      cases h3) (fun g' hg' => by
      rw [HA.out] at hg'
      cases hg'
      exact H2.out q hq g hgo) f1 f2 (fun i e => by subst e; exact H2.out q hq i hgo) (by rw [List.length_set]; omega)
    rw [lookD_dn]
    exact ⟨rfl, this⟩
  rw [if_neg (by rw [HK.out]; exact hlt)]
  obtain rfl : i = (k : Int) := by omega
  obtain ⟨u, hu1⟩ : ∃ u, pagesD (dn L) = u := ⟨_, rfl⟩
  have HU := Lib.hid hu1
  have XU := Lib.hid (fun (w' : World) (hx : FsX X w' b bm room left (dn L)) => x_used hx)
  rw [hu1] at XU hrm ⊢
  clear hu1 hk1 hlt hd1 hi1
  by_cases hfl : (u : Int) = room
  · rw [if_pos hfl]
    have hd : ((u : Int) == room) = true := by simpa using hfl
    clear hfl
    go_enter Try.func17, Try.ntmps17
    go_wp2_with (first
      | (go_at_call 36; refine (none_at _ _ _ c2).mono ?_; rintro e w' ⟨rfl, rfl⟩)
      | (go_at_call 39; refine (HPG.out _).mono ?_; rintro e w' ⟨rfl, rfl⟩)
      | (go_at_call 16; refine HN.out.mono ?_; rintro e w2 ⟨rfl, hb2⟩; have HB2 := Lib.hid hb2; have X2 := Lib.hid (HX.out.below hb2); have d0 := X2.out.c0; clear hb2))
    go_region_held3 (fun wx => wx.cell? ⟨b, 0, none⟩ = some (.int .i64 room))
      (first | exact f0 | exact d0)
      ((go_at_call 18; refine (XU.out _ (X2.out.drewN 1)).mono ?_; rintro e w3 ⟨rfl, hb3⟩; have HB3 := Lib.hid (HB2.out.trans ((show Below w2.heap.size w2 w3 from (below_drewNg w2 1).trans hb3).mono HB2.out.size)); clear hb3; have X3 := Lib.hid (HX.out.below HB3.out); have f0 := X3.out.c0))
    all_goals
      go_wp2
      go_ret
      exact ⟨rfl, X3.out, (Fr.of_below HB3.out).mono (fun _ e => e.elim)⟩
  rw [if_neg hfl]
  have hd : ((u : Int) == room) = false := by simpa using hfl
  obtain ⟨R, hR⟩ : ∃ R, (F.look L s).2 ++ [x] = R := ⟨_, rfl⟩
  have HRR := Lib.hid hR
  have hRl : R.length = k + 1 := by rw [← hR, List.length_append, ← lookD_dn, HK.out]; rfl
  have HRl := Lib.hid hRl
  have HROW := Lib.hid (fun (W : World) (hb : Below w.heap.size w W) => ((H1.out.below hb).found s).1)
  rw [HA.out] at HROW
  rw [show (F.look L s).2.length = k by rw [← lookD_dn]; exact HK.out] at HROW
  have hpd := pages_del (s := s) H1.out.rise
  rw [← lookD_dn, HK.out, ← pages_dn L, HU.out] at hpd
  have HSM := Lib.hid (show (pagesOf (del s L) : Int) + R.length ≤ room by rw [hRl]; omega)
  have HSM4 := Lib.hid (show pagesOf (del s L) + R.length ≤ 4096 by have := HSM.out; omega)
  have HFU := Lib.hid (show ∀ z ∈ R, z.size = 128 from fun z hz => by
    rw [← hR] at hz
    rcases List.mem_append.1 hz with hz | hz
    · by_cases hn : (F.look L s).2 = []
      · rw [hn] at hz; cases hz
      · obtain ⟨q, hq, _, e⟩ := look_mem hn
        rw [e] at hz
        exact H1.out.full q hq z hz
    · rw [List.mem_singleton] at hz
      subst hz
      exact HXZ.out)
  have HRN := Lib.hid (show R ≠ [] from fun e => by rw [e] at hRl; simp at hRl)
  have HQL := Lib.hid (show (F.look L s).2.length = k by rw [← lookD_dn]; exact HK.out)
  have hk6 : k ≤ 1000000 := by omega
  have HAA := Lib.hid (show ∀ p ∈ del s L, ∀ g, p.2.1.ownBlock = some g → (Value.slice A k c).ownBlock ≠ some g from fun p hp g hg e => by
    by_cases hn : (F.look L s).2 = []
    · have hr := (H1.out.found s).1
      rw [HA.out, hn] at hr
      have h0 : k = 0 := by have := HQL.out; rw [hn] at this; exact this.symm
      rw [h0] at e
      have hA0 : (F.look L s).1 = .slice none 0 0 := by
        have := hn
        unfold F.look at this ⊢
        cases hf : L.find? (fun p => nm p.1 == nm s) with
        | none => rfl
        | some q =>
          rw [hf] at this
          exact absurd this (H1.out.rows q (List.mem_of_find?_eq_some hf)).2
      rw [HA.out] at hA0
      injection hA0 with hA1 _ _
      subst hA1
      cases e
    · obtain ⟨q, hq, rfl, e2⟩ := look_mem hn
      have h5 := H1.out.alone hq hp g hg
      have : q.2.1 = .slice A k c := by rw [← e2, HA.out, HQL.out]
      rw [this] at h5
      exact h5 e)
  have HAX := Lib.hid (show ∀ g, (Value.slice A k c).ownBlock = some g → ¬ X g ∧ g ≠ b ∧ g ≠ bm ∧ g < w.heap.size from fun g hg => by
    have hr := HROW.out w (Below.refl _ _)
    by_cases hn : (F.look L s).2 = []
    · have hA0 : (F.look L s).1 = .slice none 0 0 := by
        have := hn
        unfold F.look at this ⊢
        cases hf : L.find? (fun p => nm p.1 == nm s) with
        | none => rfl
        | some q =>
          rw [hf] at this
          exact absurd this (H1.out.rows q (List.mem_of_find?_eq_some hf)).2
      rw [HA.out] at hA0
      injection hA0 with hA1 _ _
      subst hA1
      cases hg
    · obtain ⟨q, hq, rfl, e2⟩ := look_mem hn
      have : q.2.1 = .slice A k c := by rw [← e2, HA.out, HQL.out]
      have hg2 : q.2.1.ownBlock = some g := by rw [this]; exact hg
      exact ⟨H2.out q hq g hg2, H1.out.not_box (H1.out.rows q hq).1 g hg2, H1.out.not_map (H1.out.rows q hq).1 g hg2, (own_lt (H1.out.rows q hq).1 hg2).1⟩)
  clear hfl hR hRl hpd
  go_enter Try.func17, Try.ntmps17
  go_wp2_with (first
    | (go_at_call 36; refine (none_at _ _ _ c2).mono ?_; rintro e w' ⟨rfl, rfl⟩)
    | (go_at_call 39; refine (HPG.out _).mono ?_; rintro e w' ⟨rfl, rfl⟩)
    | (go_at_call 16; refine HN.out.mono ?_; rintro e w2 ⟨rfl, hb2⟩; have HB2 := Lib.hid hb2; have X2 := Lib.hid (HX.out.below hb2); have d0 := X2.out.c0; clear hb2))
  go_region_held3 (fun wx => wx.cell? ⟨b, 0, none⟩ = some (.int .i64 room))
    (first | exact f0 | exact d0)
    ((go_at_call 18; refine (XU.out _ (X2.out.drewN 1)).mono ?_; rintro e w3 ⟨rfl, hb3⟩; have HB3 := Lib.hid (HB2.out.trans ((show Below w2.heap.size w2 w3 from (below_drewNg w2 1).trans hb3).mono HB2.out.size)); clear hb3; have X3 := Lib.hid (HX.out.below HB3.out); have f0 := X3.out.c0))
  all_goals
    have HR3 := Lib.hid (HROW.out w3 HB3.out)
    go_wp2_with (first
      | (at_builtin; refine wp_appS rfl _ _ rfl 0 (F.look L s).2 k HQL.out x R HRR.out (.slice A k c) rfl (HR3.out.alloc _) w3.heap.size rfl (heap_alloc_new w3 _) hk6 (Nat.zero_le _) ?_; intro A4 c4 w4 hr4 hf4 ho4; have HR4 := Lib.hid hr4; have HO4 := Lib.hid ho4; have HF4 := Lib.hid (((Fr.of_below (HB3.out.alloc HB3.out.size (.cells #[.string x] 9))).mono (fun _ e => e.elim)).trans hf4); clear hr4 hf4 ho4)
      | (go_at_call 40; refine (lay_put2 (w0 := w) H1.out HF4.out (fun e => (HAX.out b e).2.1 rfl) (fun e => (HAX.out bm e).2.2.1 rfl) s (fun p hp g hg e => HAA.out p hp g hg e) HNK.out _ R HRN.out HR4.out (fun p hp g hg e => by
            rcases HO4.out g e with e | e
            · exact HAA.out p hp g hg e
            · have h1 := (own_lt (H1.out.rows p (mem_del.1 hp).1).1 hg).1
              have h3 := HB3.out.size
              have h4 : (w3.alloc (.cells #[.string x] 9)).heap.size = w3.heap.size + 1 := by simp
              omega) HSM4.out HFU.out).mono ?_; rintro e w6 ⟨rfl, h6, hf6⟩))
    go_ret
    have := FsX.laidS HX.out H2.out s _ R HRN.out (fun g hg hx => by
      rcases HO4.out g hg with e | e
      · exact (HAX.out g e).1 hx
      · have h1 := HX.out.low g hx
        have h3 := HB3.out.size
        have h4 : (w3.alloc (.cells #[.string x] 9)).heap.size = w3.heap.size + 1 := by simp
        omega) h6 ((HF4.out.mono (T := fun i => (Value.slice A k c).ownBlock = some i ∨ i = bm) (fun _ e => .inl e)).trans (hf6.mono (fun _ e => .inr e))) (fun i e => by
      rcases e with e | e
      · exact (HAX.out i e).1
      · subst e; exact HX.out.nbm) HSM.out
    rw [lookD_dn, HRR.out]
    exact ⟨rfl, this⟩
end Go.Proofs.Ytnpdnnaemfdinaa.F
