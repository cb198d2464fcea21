/- FilesPlay, walked. Conditions: the arguments are of their kinds. -/
import Derived.Lib.QuietBelow
import Derived.Test.YtnpdnnaemfdinaaPst
namespace Go.Proofs.Ytnpdnnaemfdinaa.F
open Go.RowKit Go.Maps Go.Sort Go.Shelf
open Go.Proofs.Ytnpdnnaemfdinaa.Ma
set_option linter.unusedVariables false
set_option linter.unusedSimpArgs false
theorem below_al {w w' : World} (h : Below w.heap.size w w') (o : Obj) : Below w.heap.size w (w'.alloc o) := h.alloc h.size o
theorem keep_old {w w' : World} {g i : Nat} {v : Value} (hv : w.cell? ⟨g, i, none⟩ = some v) (hg : g < w.heap.size) (h : Below w.heap.size w w') : w'.cell? ⟨g, i, none⟩ = some v := (h.cell (p := ⟨g, i, none⟩) hg).trans hv
theorem play_g {w : World} {B m c : Nat} {A : Option Addr} {R : List ByteArray} (h : w.ownsRow B 9 1 (.slice A m c) m (cellsK encS R)) (hm : R.length = m) (h0 : 0 < m) : ∃ g, A = some ⟨g, 0, none⟩ ∧ m ≤ c ∧ B ≤ g ∧ c ≤ 9223372036854775807 := by
  subst hm
  obtain ⟨g, c', e, h1, h2, h3, h4, _⟩ := row_s (by rw [cellsS] at h; exact h) (List.getElem?_eq_getElem h0)
  cases e
  exact ⟨g, rfl, h3, h1, h4⟩
theorem play_e {w0 W w9 : World} (n : Nat) {m c g : Nat} {v : Value} {R : List ByteArray} {x0 x1 x3 x4 x5 : Value} (h0 : Below w0.heap.size w0 W) (hl : w0.heap.size < W.heap.size) (hW : W.heap[w0.heap.size]? = some (.cells #[x0, x1, v, x3, x4, x5] 43 (0, 0)))
    (hb : Below W.heap.size W w9) (hr : w9.ownsRow W.heap.size 9 1 (.slice (some ⟨g, 0, none⟩) m c) m (cellsK encS R)) (hg : W.heap.size ≤ g) :
    (w9.setCell ⟨w0.heap.size, 2, none⟩ (.slice (some ⟨g, 0, none⟩) n c)).heap[w0.heap.size]? = some (.cells #[x0, x1, .slice (some ⟨g, 0, none⟩) n c, x3, x4, x5] 43 (0, 0)) ∧ (w9.setCell ⟨w0.heap.size, 2, none⟩ (.slice (some ⟨g, 0, none⟩) n c)).ownsRow W.heap.size 9 1 (.slice (some ⟨g, 0, none⟩) m c) m (cellsK encS R) ∧ Below w0.heap.size w0 (w9.setCell ⟨w0.heap.size, 2, none⟩ (.slice (some ⟨g, 0, none⟩) n c)) := by
  have hf := Fr.setCell w9 ⟨w0.heap.size, 2, none⟩ (.slice (some ⟨g, 0, none⟩) n c)
  refine ⟨by rw [heap_setCell_at ((hb.block _ hl).trans hW)]; rfl, hf.row hr (fun g' e k => ?_), (h0.trans (hb.mono h0.size)).trans (hf.below (Nat.le_trans h0.size hb.size) (fun i e => by have e' : i = w0.heap.size := e; omega))⟩
  have e1 : g = g' := Option.some.inj e
  have e2 : g' = w0.heap.size := k
  omega
theorem FsX.grow {X S : Nat → Prop} {w w' : World} {b bm : Nat} {room left : Int} {D : List De} (h : FsX X w b bm room left D) (hf : Fr S w w') (hS : ∀ k, S k → X k) : FsX (Xw X w w') w' b bm room left D := by
  obtain ⟨L, h1, h2, h3⟩ := h.ex
  refine ⟨⟨L, h1.keep hf (fun e => h.nb (hS _ e)) (fun e => h.nbm (hS _ e)) (fun p hp g hg e => h2 p hp g hg (hS _ e)), fun p hp g hg => ?_, h3⟩, ?_, ?_, fun k hk => ?_, h.rm, h.lf⟩
  · rintro (hx | hx)
    · exact h2 p hp g hg hx
    · have := (own_lt (h1.rows p hp).1 hg).1
      omega
  · rintro (hx | hx)
    · exact h.nb hx
    · have := h1.lt
      omega
  · rintro (hx | hx)
    · exact h.nbm hx
    · have := h1.own.lt
      omega
  · rcases hk with hk | hk
    · exact Nat.lt_of_lt_of_le (h.low k hk) hf.size
    · exact hk.2
theorem done_any (room left : Int) (D : List De) (k : Nat) (s : ByteArray) (A A' : Option Addr) (c c' : Nat) (P : List ByteArray) (i t : Int) (x : UInt8) : doneF room left D ⟨k, s, A, c, P, i, t, x⟩ = doneF room left D ⟨k, s, A', c', P, i, t, x⟩ := rfl
section
variable {X : Nat → Prop} {w : World} {b bm r : Nat} {room left : Int} {D : List De} {s : ByteArray} {u : Nat} {q : Bool}
theorem c_pages (hv : (lookD D s).length = u) (hs : s.size ≤ maxLen) (h : FsX X w b bm room left D) : Calls Try.prog 26 #[.pointer (some ⟨b, 0, none⟩), .string s] w fun e w' => e = .returned (.int .i64 u) ∧ w = w' := by
  subst hv; exact x_pages s hs h
theorem cr_pages (hv : (lookD D s).length = u) (h : RfX X w r room left D) (hn : D.length ≤ 4096) : Calls Try.prog 27 #[.pointer (some ⟨r, 0, none⟩), .string s] w fun e w' => e = .returned (.int .i64 u) ∧ w = w' := by
  subst hv; exact rpages_at s h hn
theorem c_usedN (hu : pagesD D = u) (h : FsX X w b bm room left D) : Calls Try.prog 18 #[.pointer (some ⟨b, 0, none⟩)] w fun e w' => e = .returned (.int .i64 u) ∧ Below w.heap.size w w' := by
  subst hu; exact x_used h
theorem cr_used (hu : pagesD D = u) (h : RfX X w r room left D) (hn : D.length ≤ 4096) (hp : pagesD D ≤ 4096) : Calls Try.prog 28 #[.pointer (some ⟨r, 0, none⟩)] w fun e w' => e = .returned (.int .i64 u) ∧ w = w' := by
  have := rused_at h hn hp
  rw [hu] at this
  exact this
theorem c_name (hq : nameOk s = q) (hs : s.size ≤ maxLen) (w : World) : Calls Try.prog 16 #[.string s] w fun e w' => e = .returned (.bool q) ∧ Below w.heap.size w w' := by
  subst hq; exact name_at s w hs
theorem cr_name (hq : nameOk s = q) (hs : s.size ≤ maxLen) (w : World) : Calls Try.prog 29 #[.string s] w fun e w' => e = .returned (.bool q) ∧ w = w' := by
  subst hq; exact rname_at s hs w
end
theorem cr_read {X : Nat → Prop} {w : World} {r : Nat} {room : Int} {D : List De} {s : ByteArray} {i : Int} {x : ByteArray} {q l : Int} (hF : readD (-1) D s i = (x, q, l)) (h : RfX X w r room (-1) D) (hn : D.length ≤ 4096) (hll : (lookD D s).length ≤ 4096) :
    Calls Try.prog 30 #[.pointer (some ⟨r, 0, none⟩), .string s, .int .i64 i] w fun e w' => e = .returned (.tuple #[.string x, .int .i64 q]) ∧ RfX (Xw X w w') w' r room l D ∧ Fr (fun k => k = r) w w' := by
  have := rread_at s i h hn ⟨by decide, by decide⟩ hll
  rw [hF] at this
  exact this
theorem fr_al (w : World) (o : Obj) : Fr (fun _ => False) w (w.alloc o) := Fr.alloc w o
theorem play_d {W w1 w7 : World} {b m : Nat} (hb : Below W.heap.size W w1) (hf : Fr (fun k => (Value.slice (some ⟨b, 0, none⟩) 0 m).ownBlock = some k) w1 w7) (hB : W.heap.size ≤ b) : Below W.heap.size W w7 :=
  hb.trans (hf.below hb.size (fun i e => by have e' : b = i := Option.some.inj e; omega))
theorem play_f {W w7 w8 w9 : World} {A : Option Addr} {n c : Nat} {xs : List Value} (hb : Below W.heap.size W w7) (hr : w7.ownsRow W.heap.size 9 1 (.slice A n c) n xs) (h8 : Fr (fun _ => False) w7 w8) (hf : Fr (fun k => (Value.slice A n c).ownBlock = some k) w8 w9) : Below W.heap.size W w9 :=
  hb.trans ((h8.below hb.size (fun i e => e.elim)).trans (hf.below (Nat.le_trans hb.size h8.size) (fun i e => own_base hr e)))
theorem play_r {w : World} {B n c : Nat} {A : Option Addr} {P : List ByteArray} (hn : P.length = n) (h : w.ownsRow B 9 1 (.slice A n c) n (cellsK encS P)) : w.ownsRow B 9 1 (.slice A n c) P.length (cellsK encS P) := by rw [hn]; exact h
set_option maxRecDepth 100000 in
set_option maxHeartbeats 8000000 in
theorem play_law (room : Int) (A : Option Addr) (c : Nat) (L : List Ac) (w : World) (h : Lies encA 6 w A L) (hlen : L.length ≤ maxLen) (hA : ∀ a ∈ L, AcAt w a) :
    Calls Try.prog 5 #[.int .i64 room, .slice A L.length c] w fun e w' => e = .returned (.bool true) ∧ Below w.heap.size w w' := by
  have HG := Lib.hid (great_at A c L 120 w h hlen hA)
  have H := Lib.hid h
  clear h hlen hA
  by_cases hroom : room < 1 ∨ 4096 < room
  · have HR := Lib.hid hroom
    clear hroom
    go_enter Try.func5, Try.ntmps5
    go_wp2_with (first
      | (go_at_call 19; refine HG.out.mono ?_; rintro e w1 ⟨⟨q0, rfl, hq0⟩, rfl⟩; clear hq0; cases q0)
      | (go_at_call 10; refine (new_bad room _ HR.out).mono ?_; rintro e w1 ⟨rfl, rfl⟩)
      | (go_at_call 20; refine (rnew_bad room _ HR.out).mono ?_; rintro e w1 ⟨rfl, rfl⟩)
      | (go_at_call 15; refine (does_at _).mono ?_; rintro e w8 ⟨rfl, hb8⟩))
    · go_ret
      exact ⟨rfl, hb8⟩
    · go_ret
      exact ⟨rfl, Below.refl _ _⟩
  · have hr1 : 1 ≤ room ∧ room ≤ 4096 := by omega
    have HR := Lib.hid hr1
    clear hroom hr1
    go_enter Try.func5, Try.ntmps5
    go_wp2_with (first
      | (go_at_call 19; refine HG.out.mono ?_; rintro e w1 ⟨⟨q0, rfl, hq0⟩, rfl⟩; have HQ := Lib.hid hq0; clear hq0; cases q0)
      | (go_at_call 10; refine (new_at room _ HR.out.1 HR.out.2).mono ?_; rintro e w1 ⟨b, bm, rfl, h1, hb1⟩; have H1 := Lib.hid h1; have B1 := Lib.hid hb1; clear h1 hb1)
      | (go_at_call 20; refine (rnew_at room _ HR.out.1 HR.out.2).mono ?_; rintro e w2 ⟨rfl, h2, hlt2, hb2⟩; have H2 := Lib.hid h2; have B2 := Lib.hid hb2; have HL2 := Lib.hid hlt2; clear h2 hb2 hlt2))
    · obtain ⟨r, hr⟩ : ∃ r, w1.heap.size = r := ⟨_, rfl⟩
      have HF2 := Lib.hid (show FsX (fun k => low w k ∨ k = r) w2 b bm room (-1) [] from (H1.out.widen B2.out).narrow (fun k hk => by
        rcases hk with hk | hk
        · exact .inl hk
        · exact .inr ⟨by omega, by have := HL2.out; omega⟩))
      have HR2 := Lib.hid (show RfX (fun k => k = r) w2 r room (-1) [] by rw [← hr]; exact H2.out)
      have HRW := Lib.hid (show w.heap.size ≤ r by rw [← hr]; exact B1.out.size)
      rw [hr]
      clear hr
      go_loopw [9] (fun i wi => ∃ (k : Nat) (left : Int) (D : List De) (X Y : Nat → Prop), k ≤ L.length ∧ i = .int .i64 k ∧ (∀ k, low w k → X k) ∧ (∀ k, Y k → X k) ∧ FsX X wi b bm room left D ∧ RfX Y wi r room left D ∧ Below w.heap.size w wi) (fun i _ => L.length - (intOf i).toNat)
      case atStart => exact ⟨0, _, _, _, _, by omega, rfl, fun k hk => .inl hk, fun k hk => .inr hk, HF2.out, HR2.out, below_low B1.out B2.out⟩
      case round =>
        obtain ⟨k, left, D, X, Y, hk, rfl, hX, hY, hx, hrx, hb⟩ := hrel
        obtain ⟨w0, hw0⟩ : ∃ V, V = wr := ⟨_, rfl⟩
        subst hw0
        have HB := Lib.hid hb
        have HX := Lib.hid hx
        have HRX := Lib.hid hrx
        have HXL := Lib.hid hX
        have HYX := Lib.hid hY
        have hL120 : L.length ≤ 120 := (HQ.out (by simp)).1
        by_cases hlt : k < L.length
        · obtain ⟨a, ha⟩ : ∃ y, L[k]? = some y := ⟨_, List.getElem?_eq_getElem hlt⟩
          have HOK := Lib.hid ((HQ.out (by simp)).2 a (List.mem_of_getElem? ha))
          obtain ⟨g, o, e, hgw, _⟩ := h_at H.out ha
          have HGW0 := Lib.hid hgw
          subst e
          have HC6 := Lib.hid (fun (V : World) (hv : Below w.heap.size w V) => cells6 (H.out.below hv (Nat.le_refl _)) ha)
          obtain ⟨q0, q1, q2, q3, q4, q5⟩ := HC6.out w0 hb
          have i1 : (k : Int) < (L.length : Int) := by omega
          have i2 : (k : Int) < 120 := by omega
          have HA := Lib.hid ha
          obtain ⟨k', s', A', c', P', i', t', x'⟩ := a
          dsimp only at q0 q1 q2 q3 q4 q5
          obtain ⟨n', hn'⟩ : ∃ n, P'.length = n := ⟨_, rfl⟩
          obtain ⟨z', hz'⟩ : ∃ z : Int, (x'.toNat : Int) = z := ⟨_, rfl⟩
          rw [hn'] at q2
          rw [hz'] at q5
          have HNZ := Lib.hid (And.intro hn' hz')
          clear hb hx hrx hX hY ha hn' hz'
          go_upto_region 13 with (fail)
          obtain ⟨W, hW, gW, hbl, hsz⟩ := box_new w0 (.cells #[.int .u8 (k' : Int), .string s', .slice A' n' c', .int .i64 i', .int .i64 t', .int .u8 z'] 43 (0, 0))
          rw [hW]
          have p2 : W.cell? ⟨g, o + k * 6 + 2, none⟩ = some (.slice A' n' c') := (HC6.out W (below_low HB.out hbl)).2.2.1.trans (by show some (Value.slice A' P'.length c') = _; rw [HNZ.out.1])
          have x2 := cell_of_heap (i := 2) gW rfl
          have f2 : W.frozen? ⟨w0.heap.size, 2, none⟩ = false := free_of_heap gW (by simp)
          have HGW := Lib.hid gW
          have HBL := Lib.hid hbl
          have LG := Lib.hid (show g < W.heap.size from Nat.lt_of_lt_of_le HGW0.out (below_low HB.out hbl).size)
          have HSZ := Lib.hid hsz
          have HPL := Lib.hid (show Lies encS 1 W A' P' from (HOK.out.toAcAt.below (below_low HB.out hbl)).row)
          have hn8 : n' ≤ 8 := by rw [← HNZ.out.1]; exact HOK.out.few
          obtain ⟨m1, hm1⟩ : ∃ m, n' + 1 = m := ⟨_, rfl⟩
          have e9 : RowKit.wrap64 ((n' : Int) + 1) = (m1 : Int) := by rw [IntWalk.wrap64_in _ ⟨by omega, by omega⟩]; omega
          have e8 : IntKind.i64.wrap ((n' : Int) + 1) = (m1 : Int) := by rw [IntWalk.i64_in _ ⟨by omega, by omega⟩]; omega
          have hmk := fun V => make_s m1 (by omega) V
          have HM1 := Lib.hid hm1
          have HSL := Lib.hid (show (P' ++ [⟨#[42]⟩] : List ByteArray).length = m1 by rw [List.length_append, HNZ.out.1]; exact hm1)
          clear hW gW hbl hsz q0 q1 q2 q3 q4 q5
          have GNE := Lib.hid (show ¬ g = w0.heap.size by have := HGW0.out; have := HB.out.size; omega)
          have LX := Lib.hid (show w0.heap.size < W.heap.size by have := HSZ.out; omega)
          have hmL : m1 ≤ maxLen := by unfold maxLen; omega
          have HM1K := Lib.hid (show m1 ≤ 1000000 by omega)
          have HM1K2 := Lib.hid (show n' ≤ 1000000 by omega)
          have HD1 := Lib.hid (show (W.alloc (blanks m1)).drew.ownsRow W.heap.size 9 1 (.slice (some ⟨W.heap.size, 0, none⟩) 0 m1) ([] : List ByteArray).length (cellsK encS []) ∧ Lies encS 1 (W.alloc (blanks m1)).drew A' P' ∧ Below W.heap.size W (W.alloc (blanks m1)).drew from
            ⟨row_blank (heap_alloc_new W _) (Nat.le_refl _) hmL, HPL.out.below (below_al (Below.refl _ _) _).drew (Nat.le_refl _), (below_al (Below.refl _ _) _).drew⟩)
          have HD2 := Lib.hid (show ((W.alloc (.cells #[.string ⟨#[42]⟩] 9 (0, 0))).alloc (blanks m1)).drew.ownsRow W.heap.size 9 1 (.slice (some ⟨W.heap.size + 1, 0, none⟩) 0 m1) ([] : List ByteArray).length (cellsK encS []) ∧ Lies encS 1 ((W.alloc (.cells #[.string ⟨#[42]⟩] 9 (0, 0))).alloc (blanks m1)).drew A' P' ∧ Below W.heap.size W ((W.alloc (.cells #[.string ⟨#[42]⟩] 9 (0, 0))).alloc (blanks m1)).drew ∧ Lies encS 1 ((W.alloc (.cells #[.string ⟨#[42]⟩] 9 (0, 0))).alloc (blanks m1)).drew (some ⟨W.heap.size, 0, none⟩) [⟨#[42]⟩] from
            ⟨row_blank (by have := heap_alloc_new (W.alloc (.cells #[.string ⟨#[42]⟩] 9 (0, 0))) (blanks m1); rw [show (W.alloc (.cells #[.string ⟨#[42]⟩] 9 (0, 0))).heap.size = W.heap.size + 1 by simp] at this; exact this) (Nat.le_succ _) hmL, HPL.out.below (below_al (below_al (Below.refl _ _) _) _).drew (Nat.le_refl _), (below_al (below_al (Below.refl _ _) _) _).drew, (lies_lit W [⟨#[42]⟩] rfl).below ((Below.refl _ _).alloc (Nat.le_refl _) _).drew (Nat.le_refl _)⟩)
          have HD3 := Lib.hid (show ((W.alloc (blanks m1)).alloc (.cells #[.string ⟨#[42]⟩] 9 (0, 0))).drew.ownsRow W.heap.size 9 1 (.slice (some ⟨W.heap.size, 0, none⟩) 0 m1) ([] : List ByteArray).length (cellsK encS []) ∧ Lies encS 1 ((W.alloc (blanks m1)).alloc (.cells #[.string ⟨#[42]⟩] 9 (0, 0))).drew A' P' ∧ Below W.heap.size W ((W.alloc (blanks m1)).alloc (.cells #[.string ⟨#[42]⟩] 9 (0, 0))).drew ∧ Lies encS 1 ((W.alloc (blanks m1)).alloc (.cells #[.string ⟨#[42]⟩] 9 (0, 0))).drew (some ⟨W.heap.size + 1, 0, none⟩) [⟨#[42]⟩] from
            ⟨row_blank ((Below.heap_alloc _ _ _ (by simp)).trans (heap_alloc_new W _)) (Nat.le_refl _) hmL, HPL.out.below (below_al (below_al (Below.refl _ _) _) _).drew (Nat.le_refl _), (below_al (below_al (Below.refl _ _) _) _).drew, by have := lies_lit (W.alloc (blanks m1)) [⟨#[42]⟩] (C := #[.string ⟨#[42]⟩]) (t := 9) (fz := (0, 0)) rfl; rw [show (W.alloc (blanks m1)).heap.size = W.heap.size + 1 by simp] at this; exact this⟩)
          clear hmL
          go_cut [10] from 48 to 174 (fun q wx => q = .pointer (some ⟨w0.heap.size, 0, none⟩) ∧ ∃ A1 c1, wx.heap[w0.heap.size]? = some (.cells #[.int .u8 (k' : Int), .string s', .slice A1 n' c1, .int .i64 i', .int .i64 t', .int .u8 z'] 43 (0, 0)) ∧ wx.ownsRow W.heap.size 9 1 (.slice A1 m1 c1) m1 (cellsK encS (P' ++ [⟨#[42]⟩])) ∧ Below w0.heap.size w0 wx)
          case first =>
            go_region_held3 (fun wx => wx.cell? ⟨g, o + k * 6 + 2, none⟩ = some (.slice A' n' c'))
              (first | exact p2 | exact (Fr.setCell w9 ⟨w0.heap.size, 2, none⟩ _).cell (keep_old p2 LG.out hb9) (Nat.lt_of_lt_of_le LG.out hb9.size) GNE.out | (refine keep_old p2 LG.out ?_; (repeat (first | exact hb9 | exact hb7 | exact Below.refl _ _ | refine Below.drew ?_ | refine below_al ?_ _))))
              ((first
                | (refine step_texts (by rfl) _ _ (by rfl) W.heap.size P' [⟨#[42]⟩] (P' ++ [⟨#[42]⟩]) rfl m1 HSL.out (.slice A7 n' c7) (by rfl) (play_r HNZ.out.1 (hr7.alloc _)) (some ⟨w7.heap.size, 0, none⟩) 1 1 (by rfl) rfl (lies_lit w7 [⟨#[42]⟩] rfl) HM1K.out (below_al hb7 _).size ?_; intro A9 c9 w9 hr9 hf9; obtain ⟨g9, rfl, hc9, hg9, hcm9⟩ := play_g hr9 HSL.out (by omega); have hc9' : (n' : Int) ≤ (c9 : Int) := (by have := HM1.out; omega); have hb9 := play_f hb7 hr7 (fr_al _ _) hf9; have x29 := keep_old x2 LX.out hb9; have f29 := (hb9.frozen (p := ⟨w0.heap.size, 2, none⟩) LX.out).trans f2)
                | (refine step_texts (by rfl) _ _ (by rfl) W.heap.size P' [⟨#[42]⟩] (P' ++ [⟨#[42]⟩]) rfl m1 HSL.out (.slice A7 n' c7) (by rfl) (play_r HNZ.out.1 hr7) (some ⟨W.heap.size, 0, none⟩) 1 1 (by rfl) rfl hst7 HM1K.out hb7.size ?_; intro A9 c9 w9 hr9 hf9; obtain ⟨g9, rfl, hc9, hg9, hcm9⟩ := play_g hr9 HSL.out (by omega); have hc9' : (n' : Int) ≤ (c9 : Int) := (by have := HM1.out; omega); have hb9 := play_f hb7 hr7 (Fr.refl (fun _ => False) _) hf9; have x29 := keep_old x2 LX.out hb9; have f29 := (hb9.frozen (p := ⟨w0.heap.size, 2, none⟩) LX.out).trans f2)
                | (refine step_texts (by rfl) _ _ (by rfl) W.heap.size P' [⟨#[42]⟩] (P' ++ [⟨#[42]⟩]) rfl m1 HSL.out (.slice A7 n' c7) (by rfl) (play_r HNZ.out.1 hr7) (some ⟨W.heap.size + 1, 0, none⟩) 1 1 (by rfl) rfl hst7 HM1K.out hb7.size ?_; intro A9 c9 w9 hr9 hf9; obtain ⟨g9, rfl, hc9, hg9, hcm9⟩ := play_g hr9 HSL.out (by omega); have hc9' : (n' : Int) ≤ (c9 : Int) := (by have := HM1.out; omega); have hb9 := play_f hb7 hr7 (Fr.refl (fun _ => False) _) hf9; have x29 := keep_old x2 LX.out hb9; have f29 := (hb9.frozen (p := ⟨w0.heap.size, 2, none⟩) LX.out).trans f2)
                | (refine step_texts (by rfl) _ _ (by rfl) W.heap.size [] P' P' rfl n' HNZ.out.1 (.slice (some ⟨W.heap.size, 0, none⟩) 0 m1) (by rfl) HD1.out.1 A' n' c' (by rfl) HNZ.out.1 HD1.out.2.1 HM1K2.out HD1.out.2.2.size ?_; intro A7 c7 w7 hr7 hf7; have hb7 := play_d HD1.out.2.2 hf7 (Nat.le_refl _))
                | (refine step_texts (by rfl) _ _ (by rfl) W.heap.size [] P' P' rfl n' HNZ.out.1 (.slice (some ⟨W.heap.size + 1, 0, none⟩) 0 m1) (by rfl) HD2.out.1 A' n' c' (by rfl) HNZ.out.1 HD2.out.2.1 HM1K2.out HD2.out.2.2.1.size ?_; intro A7 c7 w7 hr7 hf7; have hb7 := play_d HD2.out.2.2.1 hf7 (Nat.le_succ _); have hst7 := HD2.out.2.2.2.fr hf7 (fun g o e hk => by cases e; have hk' := Option.some.inj hk; simp at hk'))
                | (refine step_texts (by rfl) _ _ (by rfl) W.heap.size [] P' P' rfl n' HNZ.out.1 (.slice (some ⟨W.heap.size, 0, none⟩) 0 m1) (by rfl) HD3.out.1 A' n' c' (by rfl) HNZ.out.1 HD3.out.2.1 HM1K2.out HD3.out.2.2.1.size ?_; intro A7 c7 w7 hr7 hf7; have hb7 := play_d HD3.out.2.2.1 hf7 (Nat.le_refl _); have hst7 := HD3.out.2.2.2.fr hf7 (fun g o e hk => by cases e; have hk' := Option.some.inj hk; simp at hk'))))
            all_goals
              have hE := play_e n' HBL.out LX.out HGW.out hb9 hr9 hg9
              go_wp2
              go_meet
              exact ⟨rfl, _, _, hE⟩
          case rest =>
            obtain ⟨rfl, A1, c1, hh, hrow, hb⟩ := hcut
            obtain ⟨g1, rfl, hc1, hg1, hcm1⟩ := play_g hrow HSL.out (by have := HM1.out; omega)
            have hlie := row_lies encS_len (show wc.ownsRow W.heap.size 9 1 (.slice (some ⟨g1, 0, none⟩) (P' ++ [(⟨#[42]⟩ : ByteArray)]).length c1) (P' ++ [(⟨#[42]⟩ : ByteArray)]).length (cellsK encS (P' ++ [(⟨#[42]⟩ : ByteArray)])) by rw [HSL.out]; exact hrow)
            have HLW := Lib.hid hlie
            have HLP := Lib.hid (show Lies encS 1 wc (some ⟨g1, 0, none⟩) P' by have := hlie.take P'.length; rw [List.take_left] at this; exact this)
            have HBC := Lib.hid hb
            have HH := Lib.hid hh
            have HG1 := Lib.hid (show W.heap.size ≤ g1 ∧ g1 < wc.heap.size from ⟨hg1, (own_lt hrow rfl).1⟩)
            have HGC := Lib.hid (show ∃ C, wc.heap[g1]? = some (.cells C 9 (0, 0)) ∧ m1 ≤ C.size by
              rcases hrow.2 with ⟨e, _⟩ | ⟨g', cap, cur, e, _, h5, h6, _, h7, _⟩
              · cases e
              · cases e
                exact ⟨cur, h5, by rw [h7, Nat.mul_one]; exact h6⟩)
            obtain ⟨X1, hX1⟩ : ∃ X1 : Nat → Prop, X1 = fun k => X k ∨ (w0.heap.size ≤ k ∧ k < wc.heap.size) := ⟨_, rfl⟩
            have HX1 := Lib.hid (show FsX X1 wc b bm room left D by rw [hX1]; exact HX.out.widen hb)
            have HX1w := Lib.hid (show ∀ k, X1 k ↔ X k ∨ (w0.heap.size ≤ k ∧ k < wc.heap.size) by rw [hX1]; exact fun k => Iff.rfl)
            have HRC := Lib.hid (HRX.out.below hb)
            have HXY := Lib.hid (show ∀ k, Y k → X1 k from fun k hk => (HX1w.out k).2 (.inl (HYX.out k hk)))
            have HBW := Lib.hid (below_low HB.out hb)
            have HD := Lib.hid (done_at ⟨k', s', some ⟨g1, 0, none⟩, c1, P', i', t', x'⟩ ⟨HOK.out.kind, HOK.out.name, HOK.out.num, HLP.out, HOK.out.len⟩ (by show P'.length ≤ 1000000; rw [HNZ.out.1]; omega) HX1.out)
            have HSD := Lib.hid (fun (V : World) (hv : Below w.heap.size w V) (h : RfX Y V r room left D) => said_at ⟨k', s', A', c', P', i', t', x'⟩ (HOK.out.toAcAt.below hv) (by show P'.length ≤ 1000000; rw [HNZ.out.1]; omega) h HX.out.rise HX.out.many HX.out.rm.1 HR.out.2 HX.out.look_le (fun s x hx => by
              unfold lookD at hx
              cases hf : D.find? (fun p => nm p.1 == nm s) with
              | none => rw [hf] at hx; cases hx
              | some q => rw [hf] at hx; exact HX.out.full q (List.mem_of_find?_eq_some hf) x hx) HX.out.lf)
            rw [done_any room left D k' s' (some ⟨g1, 0, none⟩) A' c1 c' P' i' t' x'] at HD
            generalize doneF room left D ⟨k', s', A', c', P', i', t', x'⟩ = R at HD HSD
            obtain ⟨rs, re, rl, rD⟩ := R
            dsimp only at HD HSD
            rw [HNZ.out.1, HNZ.out.2] at HD HSD
            have y0 := cell_of_heap (i := 0) hh rfl
            have y1 := cell_of_heap (i := 1) hh rfl
            have y2 := cell_of_heap (i := 2) hh rfl
            have y3 := cell_of_heap (i := 3) hh rfl
            have y4 := cell_of_heap (i := 4) hh rfl
            have y5 := cell_of_heap (i := 5) hh rfl
            clear hX1 hh hrow hb hlie hg1 hmk p2 x2 f2
            go_wp2_with (first
              | (go_at_call 22; refine (HSD.out w4 BW4.out HR4.out).mono ?_; rintro e w5 ⟨rfl, h5, hf5⟩; have HR5 := Lib.hid h5; have F5 := Lib.hid hf5; clear h5 hf5)
              | (go_at_call 21; refine HD.out.mono ?_; rintro e w4 ⟨rfl, h4, hf4⟩; have H4 := Lib.hid h4; have F4 := Lib.hid hf4; have HR4 := Lib.hid (HRC.out.fr hf4 (fun k hk e => e (HXY.out k hk))); have BW4 := Lib.hid (fr_low HBW.out (hf4.mono (fun k hk hl => hk ((HX1w.out k).2 (.inl (HXL.out k hl)))))); obtain ⟨u0, u1, u2, u3, u4, u5⟩ := HC6.out w4 BW4.out; dsimp only at u0 u1 u2 u3 u4 u5; rw [HNZ.out.1] at u2; rw [HNZ.out.2] at u5; clear h4 hf4))
            have NXR := Lib.hid (show ¬ w0.heap.size = r by have := HRX.out.lt; omega)
            have F45 := Lib.hid (show ∀ k, w0.heap.size ≤ k → k < wc.heap.size → w5.heap[k]? = wc.heap[k]? from fun k h1 h2 => (F5.out.block k (Nat.lt_of_lt_of_le h2 F4.out.size) (fun e => by have := HRX.out.lt; have e' : k = r := e; omega)).trans (F4.out.block k h2 (fun e => e ((HX1w.out k).2 (.inr ⟨h1, h2⟩)))))
            have hg5 := (F45.out w0.heap.size (Nat.le_refl _) (lt_of_heap HH.out)).trans HH.out
            have v1 := cell_of_heap (i := 1) hg5 rfl
            have v2 := cell_of_heap (i := 2) hg5 rfl
            have HG5 := Lib.hid hg5
            have FW := Lib.hid (show Fr (fun k => ¬ (w0.heap.size ≤ k ∧ k < wc.heap.size)) wc w5 from ⟨F5.out.os.trans F4.out.os, F5.out.tape.trans F4.out.tape, F5.out.output.trans F4.out.output, Nat.le_trans F4.out.size F5.out.size, fun k h1 h2 => by
              have h3 : w0.heap.size ≤ k ∧ k < wc.heap.size := Classical.byContradiction h2
              exact F45.out k h3.1 h3.2⟩)
            have hG1i : w0.heap.size ≤ g1 ∧ g1 < wc.heap.size := ⟨by have := HG1.out.1; have := HBL.out.size; omega, HG1.out.2⟩
            have HG1i := Lib.hid hG1i
            have HLW5 := Lib.hid (HLW.out.fr FW.out (fun g o e => by cases e; exact fun h => h hG1i))
            have HLP5 := Lib.hid (HLP.out.fr FW.out (fun g o e => by cases e; exact fun h => h hG1i))
            have BW5 := Lib.hid (show Below w.heap.size w w5 from BW4.out.trans (F5.out.below BW4.out.size (fun i e => by
              have e' : i = r := e
              have := HRW.out
              omega)))
            obtain ⟨t0, t1, t2, t3, t4, t5⟩ := HC6.out w5 BW5.out
            rw [show (Ac.mk k' s' A' c' P' i' t' x').ps.length = n' from HNZ.out.1] at t2
            obtain ⟨g2, o2, eg, _, vs⟩ := lies_s HLW5.out (j := n') (y := ⟨#[42]⟩) (by rw [List.getElem?_append_right (by rw [HNZ.out.1]; exact Nat.le_refl _), HNZ.out.1, Nat.sub_self]; rfl)
            cases eg
            rw [Nat.zero_add] at vs
            have a1 := fun d os => cell_regrown v1 d os
            have a2 := fun d os => cell_regrown v2 d os
            have a3 := fun d os => cell_regrown t2 d os
            have a4 := fun d os => cell_regrown vs d os
            have HTX := Lib.hid (fun d os => texts_n (c := c1) (c' := c') HNZ.out.1 (HLP5.out.below (below_regrown w5 d os) (Nat.le_refl _)) ((HOK.out.toAcAt.below BW5.out).row.below (below_regrown w5 d os) (Nat.le_refl _)) HM1K2.out)
            have b1 : (m1 : Int) ≤ (c1 : Int) := by omega
            have b2 : (n' : Int) < (m1 : Int) := by have := HM1.out; omega
            clear v1 v2 vs t0 t1 t2 t3 t4 t5 y0 y1 y2 y3 y4 y5 u0 u1 u2 u3 u4 u5 hg5 hG1i
            refine wp_region_quiet_below (by kernel_rfl) (by kernel_rfl) ?_
            repeat (quiet_step ((go_at_call 23; exact Calls.regrown_of (HTX.out _ _))))
            refine wpQuiet_nil ?_
            intro w6 hw6
            have B6 := Lib.hid (show Below w5.heap.size w5 w6 by obtain ⟨p, rfl⟩ := hw6; exact below_regrown _ _ _)
            clear hw6 a1 a2 a3 a4
            have HG6 := Lib.hid ((B6.out.block _ (lt_of_heap HG5.out)).trans HG5.out)
            have HC6C := Lib.hid (show ∃ C, w6.heap[g1]? = some (.cells C 9 (0, 0)) ∧ m1 ≤ C.size by
              obtain ⟨C, h1, h2⟩ := HGC.out
              have h3 := (F45.out g1 HG1i.out.1 HG1i.out.2).trans h1
              exact ⟨C, (B6.out.block _ (lt_of_heap h3)).trans h3, h2⟩)
            have NXG := Lib.hid (show ¬ w0.heap.size = g1 by have := HG1.out.1; have := HSZ.out; omega)
            go_wp2
            go_loopw [15] (fun i wi => ∃ (j : Nat) (C : Array Value), j ≤ n' ∧ i = .int .i64 j ∧ Fr (fun k => k = g1) w6 wi ∧ wi.heap[g1]? = some (.cells C 9 (0, 0)) ∧ m1 ≤ C.size) (fun i _ => n' - (intOf i).toNat)
            case atStart =>
              obtain ⟨C, h1, h2⟩ := HC6C.out
              exact ⟨0, C, by omega, rfl, Fr.refl _ _, h1, h2⟩
            case round =>
              obtain ⟨j, C, hj, rfl, hf, hC, hCs⟩ := hrel
              have v2 := cell_of_heap (i := 2) (hf.keep HG6.out NXG.out) rfl
              by_cases hjn : j < n'
              · have hjC : j < C.size := by have := HM1.out; omega
                obtain ⟨cv, hcv⟩ : ∃ v, C[j]? = some v := ⟨_, Array.getElem?_eq_getElem hjC⟩
                have cz := cell_of_heap (i := j) hC hcv
                have cf := free_of_heap (i := j) hC hjC
                have HF := Lib.hid hf
                have HC2 := Lib.hid (And.intro hC hCs)
                have j1 : (j : Int) < (n' : Int) := by omega
                have j2 : (j : Int) < 8 := by omega
                clear hf hC hCs hjC hcv
                go_wp2
                go_roundw
                case rel => exact ⟨j + 1, _, by omega, by go_num, HF.out.trans (Fr.setCell wr ⟨g1, j, none⟩ _), heap_setCell_at HC2.out.1 _, by rw [Array.size_setIfInBounds]; exact HC2.out.2⟩
                case measure => simp [intOf]; omega
              · obtain rfl : j = n' := by omega
                have HX5 := Lib.hid (H4.out.grow F5.out (fun k e => by have e' : k = r := e; subst e'; exact HXY.out k HRX.out.box))
                obtain ⟨X2, hX2⟩ : ∃ X2 : Nat → Prop, X2 = Xw X1 w4 w5 := ⟨_, rfl⟩
                obtain ⟨Y2, hY2⟩ : ∃ Y2 : Nat → Prop, Y2 = Xw Y w4 w5 := ⟨_, rfl⟩
                rw [← hX2] at HX5
                have HR5b := HR5
                rw [← hY2] at HR5b
                have HXY2 := Lib.hid (show ∀ k, Y2 k → X2 k by rw [hX2, hY2]; exact fun k hk => hk.imp (HXY.out k) id)
                have HXL2 := Lib.hid (show ∀ k, low w k → X2 k by rw [hX2]; exact fun k hk => .inl ((HX1w.out k).2 (.inl (HXL.out k hk))))
                have HYG := Lib.hid (show ∀ k, Y2 k → ¬ k = g1 by
                  rw [hY2]
                  rintro k (hk | hk) e
                  · have h1 := HX.out.low k (HYX.out k hk)
                    have h2 := HG1i.out.1
                    omega
                  · have h2 := HG1i.out.2
                    have h3 := F4.out.size
                    omega)
                have HXG := Lib.hid (show X2 g1 by rw [hX2]; exact .inl ((HX1w.out g1).2 (.inr HG1i.out)))
                have H7 := Lib.hid ((HX5.out.below B6.out).keepX hf (fun k e => by have e' : k = g1 := e; subst e'; exact HXG.out))
                have R7 := Lib.hid ((HR5b.out.below B6.out).fr hf HYG.out)
                have BW7 := Lib.hid (show Below w.heap.size w wr from (below_low BW5.out B6.out).trans (hf.below (below_low BW5.out B6.out).size (fun i e => by have e' : i = g1 := e; have := HG1i.out.1; have := HB.out.size; omega)))
                have z7 := cell_of_heap (i := 1) (hf.keep HG6.out NXG.out) rfl
                have LZ7 := Lib.hid (show w0.heap.size < wr.heap.size from lt_of_heap (hf.keep HG6.out NXG.out))
                obtain ⟨N, hN⟩ : ∃ N, rD.map (·.1) = N := ⟨_, rfl⟩
                have HN := Lib.hid hN
                have HNL := Lib.hid (show N.length ≤ 1000000 by rw [← hN, List.length_map]; exact Nat.le_trans H7.out.many (by decide))
                obtain ⟨uu, huu⟩ : ∃ u, pagesD rD = u := ⟨_, rfl⟩
                obtain ⟨vv, hvv⟩ : ∃ v, (lookD rD s').length = v := ⟨_, rfl⟩
                obtain ⟨nk, hnk⟩ : ∃ b, nameOk s' = b := ⟨_, rfl⟩
                have HSS := Lib.hid (show s'.size ≤ maxLen from HOK.out.name)
                have HMN := Lib.hid H7.out.many
                have HSM := Lib.hid H7.out.small
                have HUV := Lib.hid (And.intro huu (And.intro hvv hnk))
                clear hX2 hY2 hf hC hCs hN huu hvv hnk hjn hj
                go_wp2
                go_region_held3 (fun wx => wx.cell? ⟨w0.heap.size, 1, none⟩ = some (.string s'))
                  (first | exact z7 | exact Z12.out | exact Z11.out | exact Z10.out | exact Z9.out | exact Z8.out)
                  ((first
                    | (go_at_call 29; refine (cr_name HUV.out.2.2 HSS.out _).mono ?_; rintro e w13 ⟨rfl, rfl⟩)
                    | (go_at_call 16; refine (c_name HUV.out.2.2 HSS.out _).mono ?_; rintro e w12 ⟨rfl, hb12⟩; have H12 := Lib.hid (H11.out.below hb12); have R12 := Lib.hid (R11.out.below hb12); have Z12 := Lib.hid (keep_old Z11.out (Nat.lt_of_lt_of_le LZ7.out BZ11.out.size) hb12); have BZ12 := Lib.hid (BZ11.out.trans (hb12.mono BZ11.out.size)); clear hb12)
                    | (go_at_call 28; refine (cr_used HUV.out.1 R11.out HMN.out HSM.out).mono ?_; rintro e w13 ⟨rfl, rfl⟩)
                    | (go_at_call 18; refine (c_usedN HUV.out.1 H10.out).mono ?_; rintro e w11 ⟨rfl, hb11⟩; have H11 := Lib.hid (H10.out.below hb11); have R11 := Lib.hid (R10.out.below hb11); have Z11 := Lib.hid (keep_old Z10.out (Nat.lt_of_lt_of_le LZ7.out BZ10.out.size) hb11); have BZ11 := Lib.hid (BZ10.out.trans (hb11.mono BZ10.out.size)); clear hb11)
                    | (go_at_call 27; refine (cr_pages HUV.out.2.1 R10.out HMN.out).mono ?_; rintro e w13 ⟨rfl, rfl⟩)
                    | (go_at_call 26; refine (c_pages HUV.out.2.1 HSS.out H10.out).mono ?_; rintro e w13 ⟨rfl, rfl⟩)
                    | (go_at_call 23; refine (texts_n rfl T89.out.lies T9.out.lies HNL.out).mono ?_; rintro e w10 ⟨rfl, hb10⟩; have H10 := Lib.hid (H9.out.below hb10); have R10 := Lib.hid (R9.out.below hb10); have Z10 := Lib.hid (keep_old Z9.out (Nat.lt_of_lt_of_le LZ7.out BZ9.out.size) hb10); have BZ10 := Lib.hid (BZ9.out.trans (hb10.mono BZ9.out.size)); clear hb10)
                    | (go_at_call 25; refine (rnames_at HN.out R8.out HMN.out).mono ?_; rintro e w9 ⟨A9, c9, rfl, ht9, hb9⟩; have T9 := Lib.hid ht9; have T89 := Lib.hid (T8.out.below hb9); have H9 := Lib.hid (H8.out.below hb9); have R9 := Lib.hid (R8.out.below hb9); have Z9 := Lib.hid (keep_old Z8.out (Nat.lt_of_lt_of_le LZ7.out BZ8.out.size) hb9); have BZ9 := Lib.hid (BZ8.out.trans (hb9.mono BZ8.out.size)); clear ht9 hb9)
                    | (go_at_call 24; refine (x_told HN.out (H7.out.drewN 1)).mono ?_; rintro e w8 ⟨A8, c8, rfl, ht8, hb8⟩; have T8 := Lib.hid ht8; have H8 := Lib.hid ((H7.out.drewN 1).below hb8); have R8 := Lib.hid ((R7.out.drewN 1).below hb8); have Z8 := Lib.hid (keep_old z7 LZ7.out ((below_drewNg wr 1).trans hb8)); have BZ8 := Lib.hid (show Below wr.heap.size wr w8 from (below_drewNg wr 1).trans hb8); clear ht8 hb8)))
                all_goals
                  go_wp2
                  go_roundw
                  case rel => exact ⟨k + 1, rl, rD, X2, Y2, by omega, by go_num, HXL2.out, HXY2.out, H12.out, R12.out, BW7.out.trans (BZ12.out.mono BW7.out.size)⟩
                  case measure => simp [intOf]; omega
        · obtain rfl : k = L.length := by omega
          obtain ⟨N, hN⟩ : ∃ N, D.map (·.1) = N := ⟨_, rfl⟩
          have HN := Lib.hid hN
          have HNl := Lib.hid (show N.length = D.length by rw [← hN, List.length_map])
          have HMN := Lib.hid hx.many
          have HSM := Lib.hid hx.small
          have HRI := Lib.hid hx.rise
          have HNM := Lib.hid hx.names
          have HRLT := Lib.hid hrx.lt
          have HF0 := Lib.hid (show failF left 1099511627776 = (0, 1099511627776) by unfold failF; rw [if_neg (by decide)])
          clear hb hx hrx hX hY hN hk hlt
          go_wp2_with (first
            | (go_at_call 13; refine (c_fail HF0.out (by decide) HX.out).mono ?_; rintro e w3 ⟨rfl, h3, hf3⟩; have H3 := Lib.hid h3; have R3 := Lib.hid (HRX.out.fr hf3 (fun k hk e => e (HYX.out k hk))); have B3 := Lib.hid (fr_low HB.out (hf3.mono (fun k hk hl => hk (HXL.out k hl)))); have S3 := Lib.hid hf3.size; clear h3 hf3)
            | (go_at_call 25; refine (rnames_at HN.out R3.out HMN.out).mono ?_; rintro e w4 ⟨A4, c4, rfl, ht4, hb4⟩; have T4 := Lib.hid ht4; have H4 := Lib.hid (H3.out.widen hb4); have R4 := Lib.hid (R3.out.below hb4); have B4 := Lib.hid (below_low B3.out hb4); clear ht4 hb4))
          have HN4 := Lib.hid (show N.length ≤ 4096 by rw [HNl.out]; exact HMN.out)
          go_loopw [17] (fun i wi => ∃ (t : Nat) (l l' : Int) (X Y : Nat → Prop), t ≤ N.length ∧ i = .int .i64 t ∧ FsX X wi b bm room l D ∧ RfX Y wi r room l' D ∧ (∀ k, low w k → X k) ∧ (∀ k, Y k → X k) ∧ (∀ k, w3.heap.size ≤ k → k < w4.heap.size → X k) ∧ 1099511627776 - (pagesD (D.take t) : Int) ≤ l ∧ Told w3 w4 wi A4 N ∧ Below w.heap.size w wi) (fun i _ => N.length - (intOf i).toNat)
          case atStart => exact ⟨0, _, _, _, _, by omega, rfl, H4.out, R4.out, fun k hk => .inl (HXL.out k hk), fun k hk => .inl (HYX.out k hk), fun k h1 h2 => .inr ⟨h1, h2⟩, by simp [pagesD], T4.out, B4.out⟩
          case round =>
            obtain ⟨t, l, l', X3, Y3, ht, rfl, hx, hrx, hX, hY, hT, hl, htold, hb⟩ := hrel
            obtain ⟨w5, hw5⟩ : ∃ V, V = wr := ⟨_, rfl⟩
            subst hw5
            have HX3 := Lib.hid hx
            have HR3 := Lib.hid hrx
            have HS3 := Lib.hid (And.intro hX (And.intro hY hT))
            have HL3 := Lib.hid hl
            have HT3 := Lib.hid htold
            have HB3 := Lib.hid hb
            have hn4 := HN4.out
            by_cases htl : t < N.length
            · obtain ⟨p, hp⟩ : ∃ p, D[t]? = some p := ⟨_, List.getElem?_eq_getElem (by have := HNl.out; omega)⟩
              obtain ⟨s, hs⟩ : ∃ s, p.1 = s := ⟨_, rfl⟩
              have HNS := Lib.hid (show N[t]? = some s by rw [← HN.out, List.getElem?_map, hp, ← hs]; rfl)
              have HLK := Lib.hid (show lookD D s = p.2 by rw [← hs]; exact lookD_at HRI.out hp)
              have HSS := Lib.hid (show s.size ≤ maxLen by rw [← hs]; exact name_size (HNM.out p (List.mem_of_getElem? hp)))
              have HPT := Lib.hid (pagesD_take hp)
              obtain ⟨P, hP⟩ : ∃ P, p.2 = P := ⟨_, rfl⟩
              obtain ⟨m, hm⟩ : ∃ m, P.length = m := ⟨_, rfl⟩
              rw [hP] at HLK HPT
              have HM := Lib.hid hm
              have HPM := Lib.hid (show (lookD D s).length = m by rw [HLK.out]; exact hm)
              have HM4 := Lib.hid (show pagesD (D.take t) + m ≤ 4096 by rw [← hm, ← HPT.out]; exact Nat.le_trans (pagesD_le _ _) HSM.out)
              obtain ⟨g4, o4, e4, _, _⟩ := lies_s htold.lies HNS.out
              subst e4
              have i1 : (t : Int) < (N.length : Int) := by omega
              have i2 : (t : Int) < 4096 := by omega
              clear hp hs hP hm hx hrx hX hY hT hl htold hb
              go_wp2
              go_loopw [18] (fun i wi => ∃ (k : Nat) (l l' : Int) (X Y : Nat → Prop), k ≤ m ∧ i = .int .i64 k ∧ FsX X wi b bm room l D ∧ RfX Y wi r room l' D ∧ (∀ k, low w k → X k) ∧ (∀ k, Y k → X k) ∧ (∀ k, w3.heap.size ≤ k → k < w4.heap.size → X k) ∧ 1099511627776 - (pagesD (D.take t) : Int) - (k : Int) ≤ l ∧ Told w3 w4 wi (some ⟨g4, o4, none⟩) N ∧ Below w.heap.size w wi) (fun i _ => m - (intOf i).toNat)
              case atStart => exact ⟨0, _, _, _, _, by omega, rfl, HX3.out, HR3.out, HS3.out.1, HS3.out.2.1, HS3.out.2.2, by have := HL3.out; omega, HT3.out, HB3.out⟩
              case round =>
                obtain ⟨k, l, l', X5, Y5, hk, rfl, hx, hrx, hX, hY, hT, hl, htold, hb⟩ := hrel
                have HS5 := Lib.hid (And.intro hX (And.intro hY hT))
                have HB5 := Lib.hid hb
                have HT5 := Lib.hid htold
                have HX5 := Lib.hid hx
                have HR5 := Lib.hid hrx
                have HL5 := Lib.hid hl
                have HM44 := HM4.out
                obtain ⟨g6, o6, e6, _, p0⟩ := lies_s htold.lies HNS.out
                cases e6
                by_cases hlt : k < m
                · obtain ⟨x, hxk⟩ : ∃ x, P[k]? = some x := ⟨_, List.getElem?_eq_getElem (by have := HM.out; omega)⟩
                  have hpos : 0 < l := by omega
                  have hfs := Fr.setCell wr ⟨r, 1, none⟩ (.int .i64 (-1))
                  have c1 := hrx.c1
                  have f1 := hrx.f1
                  have HAIM := Lib.hid (hrx.aim (-1)).1
                  have HXS := Lib.hid (hx.keepX hfs (fun k e => by have e' : k = r := e; subst e'; exact hY k hrx.box))
                  have HTS := Lib.hid (htold.fr hfs (fun k h1 h2 e => by have e' : k = r := e; have := HRLT.out; have := S3.out; omega))
                  have HBS := Lib.hid (show Below w.heap.size w (wr.setCell ⟨r, 1, none⟩ (.int .i64 (-1))) from hb.trans (hfs.below hb.size (fun i e => by have e' : i = r := e; have := HRW.out; omega)))
                  obtain ⟨g7, o7, e7, _, p1⟩ := lies_s HTS.out.lies HNS.out
                  cases e7
                  have HRDF := Lib.hid (read_in HLK.out hxk hpos)
                  have HRDR := Lib.hid (show readD (-1) D s k = (x, 0, -1) by
                    have e : thereD D s k = 0 := by unfold thereD; rw [HPM.out, if_pos ⟨by omega, by omega⟩]
                    unfold readD
                    rw [if_neg (by rw [e]; decide), if_neg (by decide), HLK.out, Int.toNat_natCast]
                    simp [List.getD, hxk])
                  have i3 : (k : Int) < (m : Int) := by omega
                  have i4 : (k : Int) < 4096 := by omega
                  clear hxk hpos hfs hx hrx hX hY hT hl htold hb HM44
                  go_wp2_with (first
                    | (go_at_call 27; refine (cr_pages HPM.out HR5.out HMN.out).mono ?_; rintro e w' ⟨rfl, rfl⟩)
                    | (go_at_call 30; refine (cr_read HRDR.out R6.out HMN.out (by rw [HPM.out]; have := HM4.out; omega)).mono ?_; rintro e w7 ⟨rfl, h7, hf7⟩; have R7 := Lib.hid h7; have H7 := Lib.hid (H6.out.grow hf7 (fun k e => by have e' : k = r := e; subst e'; exact HS5.out.2.1 k R6.out.box)); have T7 := Lib.hid (T6.out.fr hf7 (fun k h1 h2 e => by have e' : k = r := e; have := HRLT.out; have := S3.out; omega)); have B7 := Lib.hid (show Below w.heap.size w w7 from B6.out.trans (hf7.below B6.out.size (fun i e => by have e' : i = r := e; have := HRW.out; omega))); clear h7 hf7)
                    | (go_at_call 14; refine (c_read HRDF.out HSS.out HXS.out).mono ?_; rintro e w6 ⟨rfl, h6, hf6⟩; have H6 := Lib.hid h6; have R6 := Lib.hid (HAIM.out.fr hf6 (fun k hk e => e (HS5.out.2.1 k hk))); have T6 := Lib.hid (HTS.out.fr hf6 (fun k h1 h2 e => e (HS5.out.2.2 k h1 h2))); have B6 := Lib.hid (fr_low HBS.out (hf6.mono (fun k hk hl => hk (HS5.out.1 k hl)))); obtain ⟨g8, o8, e8, _, p6⟩ := lies_s T6.out.lies HNS.out; cases e8; clear h6 hf6))
                  go_roundw
                  case rel => exact ⟨k + 1, l - 1, -1, _, _, by omega, by go_num, H7.out, R7.out, fun k hk => .inl (HS5.out.1 k hk), fun k hk => hk.imp (HS5.out.2.1 k) id, fun k h1 h2 => .inl (HS5.out.2.2 k h1 h2), by have := HL5.out; omega, T7.out, B7.out⟩
                  case measure => simp [intOf]; omega
                · obtain rfl : k = m := by omega
                  clear hx hrx hX hY hT hl htold hb HM44
                  go_wp2_with (go_at_call 27; refine (cr_pages HPM.out HR5.out HMN.out).mono ?_; rintro e w' ⟨rfl, rfl⟩)
                  go_roundw
                  case rel => exact ⟨t + 1, l, l', X5, Y5, by omega, by go_num, HX5.out, HR5.out, HS5.out.1, HS5.out.2.1, HS5.out.2.2, by have := HL5.out; have h5 := HPT.out; have h6 := HM.out; rw [h5]; omega, HT5.out, HB5.out⟩
                  case measure => simp [intOf]; omega
            · obtain rfl : t = N.length := by omega
              clear hx hrx hX hY hT hl htold hb
              go_wp2_with (go_at_call 15; refine (does_at _).mono ?_; rintro e w8 ⟨rfl, hb8⟩; have B8 := Lib.hid (below_low HB3.out hb8); clear hb8)
              go_ret
              exact ⟨rfl, B8.out⟩
    · go_ret
      exact ⟨rfl, Below.refl _ _⟩
end Go.Proofs.Ytnpdnnaemfdinaa.F
