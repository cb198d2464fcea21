/- FilesRoom, walked. Conditions: the arguments are of their kinds. -/
import Derived.Lib.QuietBelow
import Derived.Test.YtnpdnnaemfdinaaKpl
namespace Go.Proofs.Ytnpdnnaemfdinaa.F
open Go.RowKit Go.Maps Go.Sort Go.Shelf
open Go.Proofs.Ytnpdnnaemfdinaa.Ma
set_option linter.unusedVariables false
set_option linter.unusedSimpArgs false
abbrev low (w : World) : Nat → Prop := fun k => k < w.heap.size
/-- A list that was told, between two worlds: it lies there, in a block that is new since. -/
structure Told (w1 w2 w : World) (A : Option Addr) (N : List ByteArray) : Prop where
  lies : Lies encS 1 w A N
  base : ∀ g o, A = some ⟨g, o, none⟩ → w1.heap.size ≤ g ∧ g < w2.heap.size
theorem Told.fr {S : Nat → Prop} {w1 w2 w w' : World} {A : Option Addr} {N : List ByteArray} (h : Told w1 w2 w A N) (hf : Fr S w w') (hS : ∀ k, w1.heap.size ≤ k → k < w2.heap.size → ¬ S k) : Told w1 w2 w' A N :=
  ⟨h.lies.fr hf fun g o e => hS g (h.base g o e).1 (h.base g o e).2, h.base⟩
theorem Told.below {w1 w2 w w' : World} {A : Option Addr} {N : List ByteArray} (h : Told w1 w2 w A N) (hb : Below w.heap.size w w') : Told w1 w2 w' A N := ⟨h.lies.below hb (Nat.le_refl _), h.base⟩
theorem told_row {w w' : World} {A : Option Addr} {c : Nat} {N : List ByteArray} (h : w'.ownsRow w.heap.size 9 1 (.slice A N.length c) N.length (cellsK encS N)) : Told w w' w' A N :=
  ⟨row_lies encS_len h, fun g o e => by
    have hg : (Value.slice A N.length c).ownBlock = Option.some g := by subst e; rfl
    exact ⟨own_base h hg, (own_lt h hg).1⟩⟩
theorem x_told {X : Nat → Prop} {w : World} {b bm : Nat} {room left : Int} {D : List De} {N : List ByteArray} (hN : D.map (·.1) = N) (h : FsX X w b bm room left D) :
    Calls Try.prog 24 #[.pointer (some ⟨b, 0, none⟩)] w fun e w' => ∃ A c, e = .returned (.slice A N.length c) ∧ Told w w' w' A N ∧ Below w.heap.size w w' := by
  have hl : D.length = N.length := by rw [← hN, List.length_map]
  refine (x_names h).mono ?_
  rintro e w' ⟨A, c, rfl, hr, hb⟩
  rw [hN, hl] at hr
  exact ⟨A, c, by rw [hl], told_row hr, hb⟩
theorem less_iff : ∀ (a b : List UInt8), a < b → Op.bytesLess a b = true
  | [], [], h => absurd h (List.lt_irrefl _)
  | [], _ :: _, _ => rfl
  | _ :: _, [], h => by cases h
  | a :: r, b :: s, h => by
    rw [List.cons_lt_cons_iff] at h
    simp only [Op.bytesLess]
    rcases h with h | ⟨rfl, h⟩
    · simp [h]
    · simp [less_iff r s h]
theorem lies_frl {w w' : World} {A : Option Addr} {L : List ByteArray} {S : Nat → Prop} (h : Lies encS 1 w A L) (hf : Fr S w w') (hS : ∀ k, k < w.heap.size → ¬ S k) : Lies encS 1 w' A L := fun j x hx => by
  obtain ⟨g, o, e, hg, hc⟩ := h j x hx
  exact ⟨g, o, e, Nat.lt_of_lt_of_le hg hf.size, fun i u hu => hf.cell (hc i u hu) hg (hS g hg)⟩
theorem names_facts {X : Nat → Prop} {w : World} {b bm : Nat} {room left : Int} {D : List De} {N : List ByteArray} (hN : D.map (·.1) = N) (h : FsX X w b bm room left D) :
    (∀ (t : Nat) (s : ByteArray), N[t]? = some s → s.size ≤ maxLen ∧ nameOk s = true ∧ 1 ≤ (lookD D s).length) ∧ ∀ (t : Nat) (s s' : ByteArray), N[t]? = some s → N[t + 1]? = some s' → Op.bytesLess s.toList s'.toList = true := by
  subst hN
  refine ⟨fun t s hs => ?_, fun t s s' hs hs' => ?_⟩
  · rw [List.getElem?_map] at hs
    obtain ⟨p, hp, rfl⟩ := Option.map_eq_some_iff.1 hs
    have hm := List.mem_of_getElem? hp
    rw [lookD_at h.rise hp]
    exact ⟨name_size (h.names p hm), h.names p hm, List.length_pos_iff.2 (h.some p hm)⟩
  · rw [List.getElem?_map] at hs hs'
    obtain ⟨p, hp, rfl⟩ := Option.map_eq_some_iff.1 hs
    obtain ⟨p', hp', rfl⟩ := Option.map_eq_some_iff.1 hs'
    have h1 := List.getElem?_eq_some_iff.1 hp
    have h2 := List.getElem?_eq_some_iff.1 hp'
    have := List.pairwise_iff_getElem.1 h.rise t (t + 1) h1.1 h2.1 (by omega)
    rw [h1.2, h2.2] at this
    rw [ByteArray.toList_eq, ByteArray.toList_eq]
    exact less_iff _ _ this
theorem h_at {w : World} {A : Option Addr} {L : List Ac} (h : Lies encA 6 w A L) {k : Nat} {a : Ac} (ha : L[k]? = some a) : ∃ g o, A = some ⟨g, o, none⟩ ∧ g < w.heap.size ∧ True := by
  obtain ⟨g, o, e, hg, _⟩ := h k a ha
  exact ⟨g, o, e, hg, trivial⟩
theorem cells6 {w : World} {g o : Nat} {L : List Ac} (h : Lies encA 6 w (some ⟨g, o, none⟩) L) {k : Nat} {a : Ac} (ha : L[k]? = some a) :
    w.cell? ⟨g, o + k * 6, none⟩ = some (.int .u8 (a.kind : Int)) ∧ w.cell? ⟨g, o + k * 6 + 1, none⟩ = some (.string a.name) ∧ w.cell? ⟨g, o + k * 6 + 2, none⟩ = some (.slice a.adr a.ps.length a.cap) ∧ w.cell? ⟨g, o + k * 6 + 3, none⟩ = some (.int .i64 a.i) ∧ w.cell? ⟨g, o + k * 6 + 4, none⟩ = some (.int .i64 a.at_) ∧ w.cell? ⟨g, o + k * 6 + 5, none⟩ = some (.int .u8 (a.x.toNat : Int)) := by
  obtain ⟨g', o', e, _, hc⟩ := h k a ha
  cases e
  exact ⟨hc 0 _ rfl, hc 1 _ rfl, hc 2 _ rfl, hc 3 _ rfl, hc 4 _ rfl, hc 5 _ rfl⟩
set_option maxRecDepth 100000 in
set_option maxHeartbeats 4000000 in
attribute [local irreducible] wpQuiet in
theorem room_law (r : Nat) (hr : r ≤ 255) (A : Option Addr) (c : Nat) (L : List Ac) (w : World) (h : Lies encA 6 w A L) (hlen : L.length ≤ maxLen) (hA : ∀ a ∈ L, AcAt w a) :
    Calls Try.prog 8 #[.int .u8 (r : Int), .slice A L.length c] w fun e w' => e = .returned (.bool true) ∧ Below w.heap.size w w' := by
  obtain ⟨m, hm⟩ : ∃ m, r % 30 = m := ⟨_, rfl⟩
  have hm30 : m < 30 := by omega
  have w0 : IntKind.i64.wrap (r : Int) = (r : Int) := IntWalk.i64_in _ ⟨by omega, by omega⟩
  have wm : (r : Int).tmod 30 = (m : Int) := by rw [Int.tmod_eq_emod_of_nonneg (by omega)]; omega
  have wm2 : IntKind.i64.wrap (m : Int) = (m : Int) := IntWalk.i64_in _ ⟨by omega, by omega⟩
  obtain ⟨q, hq⟩ : ∃ q : Int, 1 + (m : Int) = q := ⟨_, rfl⟩
  have wq : IntKind.i64.wrap q = q := IntWalk.i64_in _ ⟨by omega, by omega⟩
  have hq1 : 1 ≤ q ∧ q ≤ 30 := by omega
  have HQ1 := Lib.hid hq1
  have hl0 : L.length ≤ 9223372036854775807 := by unfold maxLen at hlen; omega
  have HG := Lib.hid (great_at A c L 100 w h hlen hA)
  have H := Lib.hid h
  clear h hlen hA hm hq1 hr
  go_enter Try.func8, Try.ntmps8
  go_wp2_with (first
    | (go_at_call 19; refine HG.out.mono ?_; rintro e w1 ⟨⟨q0, rfl, hq0⟩, rfl⟩; have HQ := Lib.hid hq0; clear hq0; cases q0)
    | (go_at_call 10; refine (new_at q _ HQ1.out.1 (by have := HQ1.out.2; omega)).mono ?_; rintro e w1 ⟨b, bm, rfl, h1, hb1⟩; have H1 := Lib.hid h1; have B1 := Lib.hid hb1; clear h1 hb1))
  · go_loopw [8] (fun i wi => ∃ (k : Nat) (left : Int) (D : List De), k ≤ L.length ∧ i = .int .i64 k ∧ FsX (low w) wi b bm q left D ∧ Below w.heap.size w wi) (fun i _ => L.length - (intOf i).toNat)
    case atStart => exact ⟨0, _, _, by omega, rfl, H1.out, B1.out⟩
    case round =>
      obtain ⟨k, left, D, hk, rfl, hx, hb⟩ := hrel
      obtain ⟨w0', hw0⟩ : ∃ V, V = wr := ⟨_, rfl⟩
      subst hw0
      have HB := Lib.hid hb
      have HX := Lib.hid hx
      by_cases hlt : k < L.length
      · obtain ⟨a, ha⟩ : ∃ y, L[k]? = some y := ⟨_, List.getElem?_eq_getElem hlt⟩
        have hok := (HQ.out (by simp)).2 a (List.mem_of_getElem? ha)
        obtain ⟨g, o, e, _, _⟩ := h_at H.out ha
        subst e
        have HC6 := Lib.hid (fun (V : World) (hv : Below w.heap.size w V) => cells6 (H.out.below hv (Nat.le_refl _)) ha)
        have HD := Lib.hid (fun (X : Nat → Prop) (V : World) (hv : Below w.heap.size w V) (h : FsX X V b bm q left D) => done_at a (hok.toAcAt.below hv) (by have := hok.few; omega) h)
        have href := refused (room := q) (left := left) (D := D) (a := a)
        generalize doneF q left D a = r at HD href
        obtain ⟨rs, re, rl, rD⟩ := r
        obtain ⟨k', s', A', c', P', i', t', x'⟩ := a
        dsimp only at HD HC6 href
        generalize P'.length = n' at HD HC6
        generalize (x'.toNat : Int) = z' at HD HC6
        obtain ⟨u0, hu0⟩ : ∃ u, pagesD D = u := ⟨_, rfl⟩
        obtain ⟨u, hu⟩ : ∃ u, pagesD rD = u := ⟨_, rfl⟩
        have HU0 := Lib.hid (fun (X : Nat → Prop) (V : World) (l : Int) (h : FsX X V b bm q l D) => by have := x_used h; rw [hu0] at this; exact this)
        have HU := Lib.hid (fun (X : Nat → Prop) (V : World) (l : Int) (h : FsX X V b bm q l rD) => by have := x_used h; rw [hu] at this; exact this)
        obtain ⟨N, hN⟩ : ∃ N, rD.map (·.1) = N := ⟨_, rfl⟩
        obtain ⟨N0, hN0⟩ : ∃ N, D.map (·.1) = N := ⟨_, rfl⟩
        have HNM := Lib.hid (fun (X : Nat → Prop) (V : World) (l : Int) (h : FsX X V b bm q l rD) => names_facts hN h)
        have HN := Lib.hid hN
        have HN0 := Lib.hid hN0
        have HNB := Lib.hid (fun (X : Nat → Prop) (V : World) (l : Int) (h : FsX X V b bm q l rD) => show N.length ≤ 4096 by rw [← hN, List.length_map]; exact h.many)
        have HRM := Lib.hid (fun (X : Nat → Prop) (V : World) (l : Int) (h : FsX X V b bm q l rD) => show (u : Int) ≤ q by have := h.rm.1; rw [hu] at this; exact this)
        have i1 : (k : Int) < (L.length : Int) := by omega
        by_cases hz : re = 0
        · subst hz
          clear ha hok href hu hu0 hb hx hN hN0
          go_wp2_with (first
            | (go_at_call 18; refine (HU.out _ _ _ H5.out).mono ?_; rintro e w8 ⟨rfl, hb8⟩; have hrm := HRM.out _ _ _ H5.out; have T8 := Lib.hid (T5.out.below hb8); have H8 := Lib.hid (H5.out.below hb8); have B8 := Lib.hid (below_low B5.out hb8); clear hb8)
            | (go_at_call 24; refine (x_told HN.out H4.out).mono ?_; rintro e w5 ⟨A5, c5, rfl, ht5, hb5⟩; have T5 := Lib.hid ht5; have H5 := Lib.hid (H4.out.below hb5); have B5 := Lib.hid (below_low B4.out hb5); clear ht5 hb5)
            | (go_at_call 21; refine (HD.out _ w3 B3.out H3.out).mono ?_; rintro e w4 ⟨rfl, h4, hf4⟩; have F4 := Lib.hid hf4; have H4 := Lib.hid h4; have B4 := Lib.hid (fr_low B3.out (hf4.mono (fun k hk hl => hk (.inl hl)))); clear h4 hf4)
            | (go_at_call 24; refine (x_told HN0.out H2.out).mono ?_; rintro e w3 ⟨A3, c3, rfl, ht3, hb3⟩; have T3 := Lib.hid ht3; have H3 := Lib.hid (H2.out.widen hb3); have B3 := Lib.hid (below_low B2.out hb3); obtain ⟨q0, q1, q2, q3, q4, q5⟩ := HC6.out w3 B3.out; clear ht3 hb3)
            | (go_at_call 18; refine (HU0.out _ _ _ HX.out).mono ?_; rintro e w2 ⟨rfl, hb2⟩; have H2 := Lib.hid (HX.out.below hb2); have B2 := Lib.hid (below_low HB.out hb2); clear hb2))
          go_loopw [14] (fun i wi => ∃ t : Nat, t ≤ N.length ∧ i = .int .i64 t ∧ Below w8.heap.size w8 wi) (fun i _ => N.length - (intOf i).toNat)
          case atStart => exact ⟨0, by omega, rfl, Below.refl _ _⟩
          case round =>
            obtain ⟨t, ht, rfl, hbt⟩ := hrel
            have HBT := Lib.hid hbt
            have TT := Lib.hid (T8.out.below hbt)
            have HT := Lib.hid (H8.out.below hbt)
            clear hbt
            by_cases htl : t < N.length
            · obtain ⟨s, hs⟩ : ∃ s, N[t]? = some s := ⟨_, List.getElem?_eq_getElem htl⟩
              obtain ⟨hf1, hf2⟩ := HNM.out _ _ _ H8.out
              have hnb := HNB.out _ _ _ H8.out
              obtain ⟨hs1, hs2, hs3⟩ := hf1 t s hs
              obtain ⟨g5, o5, e5, _, p0⟩ := lies_s TT.out.lies hs
              subst e5
              have HNA := Lib.hid (fun V => show Calls Try.prog 16 #[.string s] V fun e w' => e = .returned (.bool true) ∧ Below V.heap.size V w' by have := name_at s V hs1; rw [hs2] at this; exact this)
              obtain ⟨m, hm⟩ : ∃ m, (lookD rD s).length = m := ⟨_, rfl⟩
              rw [hm] at hs3
              have HPA := Lib.hid (fun d os => show Calls Try.prog 26 #[.pointer (some ⟨b, 0, none⟩), .string s] (Go.Sort.grow (redrawn wr d) os) fun e w' => e = .returned (.int .i64 m) ∧ Below (Go.Sort.grow (redrawn wr d) os).heap.size (Go.Sort.grow (redrawn wr d) os) w' by
                have h1 := HT.out.below (below_regrown wr d os)
                have := x_pages s hs1 h1
                rw [hm] at this
                exact this.mono fun _ _ ⟨he, hw⟩ => ⟨he, hw ▸ Below.refl _ _⟩)
              have i2 : (t : Int) < (N.length : Int) := by omega
              have i3 : (1 : Int) ≤ (m : Int) := by omega
              have HTL := Lib.hid htl
              rcases Nat.eq_zero_or_pos t with h0 | h0
              · subst h0
                rw [Nat.add_zero] at p0
                have s0 := fun d os => cell_regrown p0 d os
                clear hs hs1 hs2 hs3 hf1 hf2 hm htl ht hnb
                go_wp2
                refine wp_region_quiet_below (by kernel_rfl) (by kernel_rfl) ?_
                repeat (quiet_step (first | (go_at_call 16; exact Calls.regrown_of (HNA.out _)) | (go_at_call 26; exact Calls.regrown_of (HPA.out _ _))))
                refine wpQuiet_nil ?_
                intro w9 hw9
                have B9 := Lib.hid (show Below wr.heap.size wr w9 by obtain ⟨p, rfl⟩ := hw9; exact below_regrown _ _ _)
                clear hw9
                go_wp2
                go_roundw
                case rel => exact ⟨0 + 1, by omega, by go_num, below_low HBT.out B9.out⟩
                case measure => simp [intOf]; omega
              · obtain ⟨u1, hu1⟩ : ∃ u1, t = u1 + 1 := ⟨t - 1, by omega⟩
                have s0 := fun d os => cell_regrown p0 d os
                obtain ⟨s1, hs4⟩ : ∃ s, N[u1]? = some s := ⟨_, List.getElem?_eq_getElem (by omega)⟩
                obtain ⟨g6, o6, e6, _, p1⟩ := lies_s TT.out.lies hs4
                cases e6
                have s1 := fun d os => cell_regrown p1 d os
                have hlt2 := hf2 u1 _ _ hs4 (by rw [← hu1]; exact hs)
                have j1 : (0 : Int) < (t : Int) := by omega
                have j2 : decide (0 < t) = true := by simpa using h0
                have j3 : (t : Int) - 1 = (u1 : Int) := by omega
                have j4 : (u1 : Int) < (N.length : Int) := by omega
                have j5 : IntKind.i64.wrap (u1 : Int) = (u1 : Int) := IntWalk.i64_in _ ⟨by omega, by omega⟩
                have j6 : (t : Int) < 4096 := by omega
                clear hs hs1 hs2 hs3 hs4 hf1 hf2 hm hnb hu1 h0
                go_wp2
                refine wp_region_quiet_below (by kernel_rfl) (by kernel_rfl) ?_
                repeat (quiet_step (first | (go_at_call 16; exact Calls.regrown_of (HNA.out _)) | (go_at_call 26; exact Calls.regrown_of (HPA.out _ _))))
                refine wpQuiet_nil ?_
                intro w9 hw9
                have B9 := Lib.hid (show Below wr.heap.size wr w9 by obtain ⟨p, rfl⟩ := hw9; exact below_regrown _ _ _)
                clear hw9
                go_wp2
                go_roundw
                case rel => exact ⟨t + 1, HTL.out, by go_num, below_low HBT.out B9.out⟩
                case measure => have h5 := HTL.out; simp [intOf]; omega
            · obtain rfl : t = N.length := by omega
              go_wp2
              go_roundw
              case rel => exact ⟨k + 1, rl, rD, by omega, by go_num, HT.out.narrow (fun k hk => .inl hk), below_low B8.out HBT.out⟩
              case measure => simp [intOf]; omega
        · have hDD : rD = D := href hz
          have e1 : (re != 0) = true := by simpa using hz
          subst hDD
          obtain rfl : N0 = N := by rw [← hN, ← hN0]
          obtain rfl : u0 = u := by rw [← hu, ← hu0]
          have HNL := Lib.hid (show N0.length ≤ 1000000 by rw [← hN, List.length_map]; exact Nat.le_trans hx.many (by decide))
          clear ha hok href hu hu0 hb hx hN hN0 hz
          go_wp2_with (first
            | (go_at_call 18; refine (HU.out _ _ _ H7.out).mono ?_; rintro e w8 ⟨rfl, hb8⟩; have hrm := HRM.out _ _ _ H5.out; have T8 := Lib.hid (T7.out.below hb8); have H8 := Lib.hid (H7.out.below hb8); have B8 := Lib.hid (below_low B7.out hb8); clear hb8)
            | (go_at_call 23; refine (texts_at A5 A3 c5 c3 N0 w6 T6.out.lies T63.out.lies HNL.out).mono ?_; rintro e w7 ⟨rfl, hb7⟩; have T7 := Lib.hid (T6.out.below hb7); have H7 := Lib.hid (H6.out.below hb7); have B7 := Lib.hid (below_low B6.out hb7); clear hb7)
            | (go_at_call 18; refine (HU.out _ _ _ H5.out).mono ?_; rintro e w6 ⟨rfl, hb6⟩; have T6 := Lib.hid (T5.out.below hb6); have T63 := Lib.hid (T53.out.below hb6); have H6 := Lib.hid (H5.out.below hb6); have B6 := Lib.hid (below_low B5.out hb6); clear hb6)
            | (go_at_call 24; refine (x_told HN.out H4.out).mono ?_; rintro e w5 ⟨A5, c5, rfl, ht5, hb5⟩; have T5 := Lib.hid ht5; have T53 := Lib.hid (T43.out.below hb5); have H5 := Lib.hid (H4.out.below hb5); have B5 := Lib.hid (below_low B4.out hb5); clear ht5 hb5)
            | (go_at_call 21; refine (HD.out _ w3 B3.out H3.out).mono ?_; rintro e w4 ⟨rfl, h4, hf4⟩; have T43 := Lib.hid (T3.out.fr hf4 (fun k h1 h2 h3 => h3 (.inr ⟨h1, h2⟩))); have H4 := Lib.hid h4; have B4 := Lib.hid (fr_low B3.out (hf4.mono (fun k hk hl => hk (.inl hl)))); clear h4 hf4)
            | (go_at_call 24; refine (x_told HN0.out H2.out).mono ?_; rintro e w3 ⟨A3, c3, rfl, ht3, hb3⟩; have T3 := Lib.hid ht3; have H3 := Lib.hid (H2.out.widen hb3); have B3 := Lib.hid (below_low B2.out hb3); obtain ⟨q0, q1, q2, q3, q4, q5⟩ := HC6.out w3 B3.out; clear ht3 hb3)
            | (go_at_call 18; refine (HU0.out _ _ _ HX.out).mono ?_; rintro e w2 ⟨rfl, hb2⟩; have H2 := Lib.hid (HX.out.below hb2); have B2 := Lib.hid (below_low HB.out hb2); clear hb2))
          go_loopw [14] (fun i wi => ∃ t : Nat, t ≤ N0.length ∧ i = .int .i64 t ∧ Below w8.heap.size w8 wi) (fun i _ => N0.length - (intOf i).toNat)
          case atStart => exact ⟨0, by omega, rfl, Below.refl _ _⟩
          case round =>
            obtain ⟨t, ht, rfl, hbt⟩ := hrel
            have HBT := Lib.hid hbt
            have TT := Lib.hid (T8.out.below hbt)
            have HT := Lib.hid (H8.out.below hbt)
            clear hbt
            by_cases htl : t < N0.length
            · obtain ⟨s, hs⟩ : ∃ s, N0[t]? = some s := ⟨_, List.getElem?_eq_getElem htl⟩
              obtain ⟨hf1, hf2⟩ := HNM.out _ _ _ H8.out
              have hnb := HNB.out _ _ _ H8.out
              obtain ⟨hs1, hs2, hs3⟩ := hf1 t s hs
              obtain ⟨g5, o5, e5, _, p0⟩ := lies_s TT.out.lies hs
              subst e5
              have HNA := Lib.hid (fun V => show Calls Try.prog 16 #[.string s] V fun e w' => e = .returned (.bool true) ∧ Below V.heap.size V w' by have := name_at s V hs1; rw [hs2] at this; exact this)
              obtain ⟨m, hm⟩ : ∃ m, (lookD rD s).length = m := ⟨_, rfl⟩
              rw [hm] at hs3
              have HPA := Lib.hid (fun d os => show Calls Try.prog 26 #[.pointer (some ⟨b, 0, none⟩), .string s] (Go.Sort.grow (redrawn wr d) os) fun e w' => e = .returned (.int .i64 m) ∧ Below (Go.Sort.grow (redrawn wr d) os).heap.size (Go.Sort.grow (redrawn wr d) os) w' by
                have h1 := HT.out.below (below_regrown wr d os)
                have := x_pages s hs1 h1
                rw [hm] at this
                exact this.mono fun _ _ ⟨he, hw⟩ => ⟨he, hw ▸ Below.refl _ _⟩)
              have i2 : (t : Int) < (N0.length : Int) := by omega
              have i3 : (1 : Int) ≤ (m : Int) := by omega
              have HTL := Lib.hid htl
              rcases Nat.eq_zero_or_pos t with h0 | h0
              · subst h0
                rw [Nat.add_zero] at p0
                have s0 := fun d os => cell_regrown p0 d os
                clear hs hs1 hs2 hs3 hf1 hf2 hm htl ht hnb
                go_wp2
                refine wp_region_quiet_below (by kernel_rfl) (by kernel_rfl) ?_
                repeat (quiet_step (first | (go_at_call 16; exact Calls.regrown_of (HNA.out _)) | (go_at_call 26; exact Calls.regrown_of (HPA.out _ _))))
                refine wpQuiet_nil ?_
                intro w9 hw9
                have B9 := Lib.hid (show Below wr.heap.size wr w9 by obtain ⟨p, rfl⟩ := hw9; exact below_regrown _ _ _)
                clear hw9
                go_wp2
                go_roundw
                case rel => exact ⟨0 + 1, by omega, by go_num, below_low HBT.out B9.out⟩
                case measure => simp [intOf]; omega
              · obtain ⟨u1, hu1⟩ : ∃ u1, t = u1 + 1 := ⟨t - 1, by omega⟩
                have s0 := fun d os => cell_regrown p0 d os
                obtain ⟨s1, hs4⟩ : ∃ s, N0[u1]? = some s := ⟨_, List.getElem?_eq_getElem (by omega)⟩
                obtain ⟨g6, o6, e6, _, p1⟩ := lies_s TT.out.lies hs4
                cases e6
                have s1 := fun d os => cell_regrown p1 d os
                have hlt2 := hf2 u1 _ _ hs4 (by rw [← hu1]; exact hs)
                have j1 : (0 : Int) < (t : Int) := by omega
                have j2 : decide (0 < t) = true := by simpa using h0
                have j3 : (t : Int) - 1 = (u1 : Int) := by omega
                have j4 : (u1 : Int) < (N0.length : Int) := by omega
                have j5 : IntKind.i64.wrap (u1 : Int) = (u1 : Int) := IntWalk.i64_in _ ⟨by omega, by omega⟩
                have j6 : (t : Int) < 4096 := by omega
                clear hs hs1 hs2 hs3 hs4 hf1 hf2 hm hnb hu1 h0
                go_wp2
                refine wp_region_quiet_below (by kernel_rfl) (by kernel_rfl) ?_
                repeat (quiet_step (first | (go_at_call 16; exact Calls.regrown_of (HNA.out _)) | (go_at_call 26; exact Calls.regrown_of (HPA.out _ _))))
                refine wpQuiet_nil ?_
                intro w9 hw9
                have B9 := Lib.hid (show Below wr.heap.size wr w9 by obtain ⟨p, rfl⟩ := hw9; exact below_regrown _ _ _)
                clear hw9
                go_wp2
                go_roundw
                case rel => exact ⟨t + 1, HTL.out, by go_num, below_low HBT.out B9.out⟩
                case measure => have h5 := HTL.out; simp [intOf]; omega
            · obtain rfl : t = N0.length := by omega
              go_wp2
              go_roundw
              case rel => exact ⟨k + 1, rl, rD, by omega, by go_num, HT.out.narrow (fun k hk => .inl hk), below_low B8.out HBT.out⟩
              case measure => simp [intOf]; omega
      · obtain rfl : k = L.length := by omega
        go_wp2_with (go_at_call 15; refine (does_at _).mono ?_; rintro e w8 ⟨rfl, hb8⟩; have B8 := Lib.hid (below_low HB.out hb8); clear hb8)
        go_ret
        exact ⟨rfl, B8.out⟩
  · go_ret
    exact ⟨rfl, Below.refl _ _⟩
end Go.Proofs.Ytnpdnnaemfdinaa.F
