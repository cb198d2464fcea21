/- FilesFlip, walked. Conditions: the arguments are of their kinds. -/
import Derived.Test.YtnpdnnaemfdinaaFpl
namespace Go.Proofs.Ytnpdnnaemfdinaa.F
open Go.RowKit Go.Maps Go.Sort Go.Shelf
open Go.Proofs.Ytnpdnnaemfdinaa.Ma
set_option linter.unusedVariables false
set_option linter.unusedSimpArgs false
theorem all_n {X : Nat → Prop} {w : World} {b bm : Nat} {room left : Int} {D : List De} {but : ByteArray} {O : List ByteArray} {n : Nat} (hO : allF D but = O) (hn : O.length = n) (h : FsX X w b bm room left D) :
    Calls Try.prog 33 #[.pointer (some ⟨b, 0, none⟩), .string but] w fun e w' => ∃ A c left', e = .returned (.slice A n c) ∧ Told w w' w' A O ∧ 1099511623680 ≤ left' ∧ left' ≤ 1099511627776 ∧ FsX (Xw X w w') w' b bm room left' D ∧ Fr (fun k => ¬ X k) w w' := by
  subst hn
  exact all_o hO h
theorem texts_n {A A' : Option Addr} {c c' n : Nat} {L : List ByteArray} {w : World} (hn : L.length = n) (h : Lies encS 1 w A L) (h' : Lies encS 1 w A' L) (hlen : n ≤ 1000000) :
    Calls Try.prog 23 #[.slice A n c, .slice A' n c'] w fun e w' => e = .returned (.bool true) ∧ Below w.heap.size w w' := by
  subst hn
  exact texts_at A A' c c' L w h h' hlen
theorem c_flip {X : Nat → Prop} {w : World} {b bm : Nat} {room left : Int} {D D' : List De} {s : ByteArray} {i a : Int} {u : UInt8} {r : Int} (hF : flipF D s i a u = (r, D')) (hs : s.size ≤ maxLen) (h : FsX X w b bm room left D) :
    Calls Try.prog 35 #[.pointer (some ⟨b, 0, none⟩), .string s, .int .i64 i, .int .i64 a, .int .u8 (u.toNat : Int)] w fun e w' => e = .returned (.int .i64 r) ∧ FsX X w' b bm room left D' ∧ Fr (fun k => ¬ X k) w w' := by
  have := x_flip s hs i a u h
  rw [hF] at this
  exact this
theorem c_flip0 {X : Nat → Prop} {w : World} {b bm : Nat} {room left : Int} {D D' : List De} {s : ByteArray} {i a : Int} {r : Int} (hF : flipF D s i a 0 = (r, D')) (hs : s.size ≤ maxLen) (h : FsX X w b bm room left D) :
    Calls Try.prog 35 #[.pointer (some ⟨b, 0, none⟩), .string s, .int .i64 i, .int .i64 a, .int .u8 0] w fun e w' => e = .returned (.int .i64 r) ∧ FsX X w' b bm room left D' ∧ Fr (fun k => ¬ X k) w w' := by
  have h1 := c_flip hF hs h
  have e : ((0 : UInt8).toNat : Int) = 0 := by decide
  rw [e] at h1
  exact h1
theorem pair_set {D : List De} (h : D.Pairwise fun p q => nm p.1 < nm q.1) {j : Nat} {p : De} {s : ByteArray} {P : List ByteArray} (hp : D[j]? = some p) (hs : p.1 = s) : (D.set j (s, P)).Pairwise fun p q => nm p.1 < nm q.1 := by
  have h2 : (D.map fun p => nm p.1).Pairwise (· < ·) := List.pairwise_map.2 h
  have e : (D.set j (s, P)).map (fun p => nm p.1) = D.map fun p => nm p.1 := by
    rw [List.map_set]
    have hj := List.getElem?_eq_some_iff.1 hp
    have e1 : nm (s, P).1 = (D.map fun p => nm p.1)[j]'(by simpa using hj.1) := by
      rw [List.getElem_map, hj.2, hs]
    rw [e1, List.set_getElem_self]
  exact List.pairwise_map.1 (e ▸ h2)
set_option maxRecDepth 100000 in
set_option maxHeartbeats 8000000 in
theorem flip_law (A : Option Addr) (c : Nat) (L : List Ac) (a0 a1 : Nat) (u : UInt8) (w : World) (h : Lies encA 6 w A L) (hlen : L.length ≤ maxLen) (hA : ∀ a ∈ L, AcAt w a) (h0 : a0 ≤ 65535) (h1 : a1 ≤ 65535) :
    Calls Try.prog 9 #[.slice A L.length c, .agg #[.int .u16 (a0 : Int), .int .u16 (a1 : Int)], .int .u8 (u.toNat : Int)] w fun e w' => e = .returned (.bool true) ∧ Below w.heap.size w w' := by
  obtain ⟨W, hW, gW, hbl, hsz⟩ := box_new w (.cells #[.int .u16 (a0 : Int), .int .u16 (a1 : Int)] 65 (0, 0))
  have HG := Lib.hid (great_at A c L 60 W (h.below hbl (Nat.le_refl _)) hlen (fun a ha => (hA a ha).below hbl))
  have H := Lib.hid (h.below hbl (Nat.le_refl _))
  have hlW : w.heap.size < W.heap.size := by omega
  have HZ := Lib.hid hlW
  have HCELL := Lib.hid (fun (V : World) (hf : Fr (fun k => ¬ low W k) W V) => And.intro (hf.cell (cell_of_heap (i := 0) gW rfl) hlW (fun e => e hlW)) (hf.cell (cell_of_heap (i := 1) gW rfl) hlW (fun e => e hlW)))
  have HB0 := Lib.hid hbl
  have HPL := Lib.hid (fun (hq : ∀ a ∈ L, AcOk W a) (hl : L.length ≤ 60) => played_at A c L W H.out hq (by omega))
  have HA01 := Lib.hid (And.intro h0 h1)
  obtain ⟨n, hn⟩ : ∃ n, L.length = n := ⟨_, rfl⟩
  rw [hn] at HG HPL ⊢
  clear h hlen hA gW hbl hsz hn hlW h0 h1
  go_enter Try.func9, Try.ntmps9
  go_wp2_with (first
    | (go_at_call 19; refine HG.out.mono ?_; rintro e w1 ⟨⟨q0, rfl, hq0⟩, rfl⟩; have HQ := Lib.hid hq0; clear hq0; cases q0)
    | (go_at_call 32; refine (HPL.out (HQ.out (by simp)).2 (HQ.out (by simp)).1).mono ?_; rintro e w2 ⟨b, bm, left, D, rfl, h2, hb2⟩; have H2 := Lib.hid h2; have B2 := Lib.hid hb2; clear h2 hb2))
  · rcases Nat.eq_zero_or_pos D.length with hD | hD
    · have HN := Lib.hid (show D.map (·.1) = [] by rw [List.length_eq_zero_iff.1 hD]; rfl)
      clear hD
      go_wp2_with (first
        | (go_at_call 24; refine (x_told HN.out H2.out).mono ?_; rintro e w3 ⟨A3, c3, rfl, _, hb3⟩; have B3 := Lib.hid (below_low B2.out hb3); clear hb3)
        | (go_at_call 15; refine (does_at _).mono ?_; rintro e w8 ⟨rfl, hb8⟩; have B8 := Lib.hid (below_low (below_low HB0.out B3.out) hb8); clear hb8))
      go_ret
      exact ⟨rfl, B8.out⟩
    · obtain ⟨N, hN⟩ : ∃ N, D.map (·.1) = N := ⟨_, rfl⟩
      have HN := Lib.hid hN
      have hNl : N.length = D.length := by rw [← hN, List.length_map]
      obtain ⟨j, hj⟩ : ∃ j, a0 % N.length = j := ⟨_, rfl⟩
      have hjl : j < N.length := by rw [← hj]; exact Nat.mod_lt _ (by omega)
      obtain ⟨p, hp⟩ : ∃ p, D[j]? = some p := ⟨_, List.getElem?_eq_getElem (by omega)⟩
      have hpm := List.mem_of_getElem? hp
      obtain ⟨s, hs⟩ : ∃ s, p.1 = s := ⟨_, rfl⟩
      have hNs : N[j]? = some s := by rw [← hN, List.getElem?_map, hp, ← hs]; rfl
      obtain ⟨m, hm⟩ : ∃ m, p.2.length = m := ⟨_, rfl⟩
      have hlk := lookD_at H2.out.rise hp
      rw [hs] at hlk
      have hm1 : 1 ≤ m := by rw [← hm]; exact List.length_pos_iff.2 (H2.out.some p hpm)
      have hm4 : m ≤ 4096 := by have := H2.out.look_le s; rw [hlk, hm] at this; exact this
      have hNb : N.length ≤ 4096 := by rw [hNl]; exact H2.out.many
      obtain ⟨i, hi⟩ : ∃ i, a1 % m = i := ⟨_, rfl⟩
      have him : i < m := by rw [← hi]; exact Nat.mod_lt _ (by omega)
      obtain ⟨t, ht⟩ : ∃ t, a1 / 64 % 128 = t := ⟨_, rfl⟩
      have ht8 : t < 128 := by omega
      obtain ⟨x, hx⟩ : ∃ x, p.2[i]? = some x := ⟨_, List.getElem?_eq_getElem (by omega)⟩
      have hx8 : x.size = 128 := H2.out.full p hpm x (List.mem_of_getElem? hx)
      obtain ⟨y, hy⟩ : ∃ y, flipB x t u = y := ⟨_, rfl⟩
      have hF1 := flip_in (u := u) H2.out.rise hp hx ht8
      rw [hy, hs] at hF1
      have hF2 := fun h2 => flip_back (u := u) (D := D) (j := j) h2 hp hx ht8 hx8
      have hF3 := flip_far (t := t) (u := u) H2.out.rise hp hx
      rw [hs] at hF3
      have hF4 := fun a => flip_neg D s i a u
      obtain ⟨O, hO⟩ : ∃ O, allF D ⟨#[]⟩ = O := ⟨_, rfl⟩
      obtain ⟨pos, hpos, hset⟩ := all_set_at (but := ⟨#[]⟩) (y := y) (fun q hq e => by have := H2.out.names q hq; rw [e] at this; revert this; decide) hp hx
      rw [hO] at hpos hset
      rw [hs] at hset hF2
      rw [hy] at hF2
      obtain ⟨D2, hD2⟩ : ∃ D2, D.set j (s, p.2.set i y) = D2 := ⟨_, rfl⟩
      rw [hD2] at hF1 hF2 hset
      obtain ⟨no, hno⟩ : ∃ n, O.length = n := ⟨_, rfl⟩
      have hno2 : (O.set pos y).length = no := by rw [List.length_set, hno]
      have hno8 : no ≤ 8192 := by rw [← hno, ← hO]; have := all_len D ⟨#[]⟩; have := H2.out.small; omega
      have hR1 : ∀ l : Int, 0 < l → readD l D s i = (x, 0, l - 1) := fun l hl => read_in hlk hx hl
      have hR2 : ∀ l : Int, 0 < l → readD l D2 s i = (y, 0, l - 1) := fun l hl => by
        have hpw : D2.Pairwise fun p q => nm p.1 < nm q.1 := by rw [← hD2]; exact pair_set H2.out.rise hp hs
        have hj2 : D2[j]? = some (s, p.2.set i y) := by rw [← hD2]; exact List.getElem?_set_self (by omega)
        exact read_in (lookD_at hpw hj2) (List.getElem?_set_self (by omega)) hl
      have i0 : IntKind.i64.wrap (a0 : Int) = (a0 : Int) := IntWalk.i64_in _ ⟨by omega, by have := HA01.out; omega⟩
      have i1 : (a0 : Int).tmod (N.length : Int) = (j : Int) := by rw [Int.tmod_eq_emod_of_nonneg (by omega)]; omega
      have i2 : (j : Int) < (N.length : Int) := by omega
      have i3 : ¬ (N.length : Int) = 0 := by omega
      have i4 : IntKind.i64.wrap (j : Int) = (j : Int) := IntWalk.i64_in _ ⟨by omega, by omega⟩
      obtain ⟨q, hq⟩ : ∃ q, a1 / 64 = q := ⟨_, rfl⟩
      have k0 : IntKind.i64.wrap (a1 : Int) = (a1 : Int) := IntWalk.i64_in _ ⟨by omega, by have := HA01.out; omega⟩
      have k1 : (a1 : Int).tmod (m : Int) = (i : Int) := by rw [Int.tmod_eq_emod_of_nonneg (by omega)]; omega
      have k2 : ¬ (m : Int) = 0 := by omega
      have k3 : IntKind.i64.wrap (i : Int) = (i : Int) := IntWalk.i64_in _ ⟨by omega, by omega⟩
      have k4 : (a1 : Int).tdiv 64 = (q : Int) := by rw [Int.tdiv_eq_ediv_of_nonneg (by omega)]; omega
      have k5 : IntKind.i64.wrap (q : Int) = (q : Int) := IntWalk.i64_in _ ⟨by omega, by have := HA01.out; omega⟩
      have k6 : (q : Int).tmod 128 = (t : Int) := by rw [Int.tmod_eq_emod_of_nonneg (by omega)]; omega
      have k7 : IntKind.i64.wrap (t : Int) = (t : Int) := IntWalk.i64_in _ ⟨by omega, by omega⟩
      have HS := Lib.hid (show s.size ≤ maxLen by rw [← hs]; exact name_size (H2.out.names p hpm))
      have HF1 := Lib.hid hF1
      have HF2 := Lib.hid hF2
      have HF3 := Lib.hid hF3
      have HF4 := Lib.hid hF4
      have HO := Lib.hid hO
      have HPOS := Lib.hid hpos
      have HSET := Lib.hid hset
      have HNO := Lib.hid hno
      have HNO2 := Lib.hid hno2
      have HNO8 := Lib.hid hno8
      have HR1 := Lib.hid hR1
      have HR2 := Lib.hid hR2
      have HNS := Lib.hid hNs
      have HY := Lib.hid hy
      have HX8 := Lib.hid hx8
      have HT8 := Lib.hid ht8
      have HIM := Lib.hid (And.intro him hm4)
      have HPG := Lib.hid (fun (V : World) (l : Int) (h : FsX (low W) V b bm 60 l D) (n : Nat) => by have := x_pages s HS.out (h.drewN n); rw [hlk, hm] at this; exact (this.mono fun _ _ ⟨he, hw⟩ => (⟨he, hw.symm⟩ : _ ∧ _)))
      clear hF1 hF2 hF3 hF4 hO hpos hset hno hno2 hno8 hR1 hR2 hNs hy hx8 ht8 hm1 hm4 hNb him hi ht hx hlk hm hs hpm hp hjl hj hNl hN hD hD2 hq
      go_wp2_with (go_at_call 24; refine (x_told HN.out H2.out).mono ?_; rintro e w3 ⟨A3, c3, rfl, ht3, hb3⟩; have F3 := Lib.hid (((Fr.of_below B2.out).mono (fun _ e => e.elim)).trans ((Fr.of_below hb3).mono (fun _ e => e.elim)) : Fr (fun k => ¬ low W k) W w3); obtain ⟨c0, c1⟩ := HCELL.out w3 F3.out; obtain ⟨g, o, e, _, p0⟩ := lies_s ht3.lies HNS.out; subst e; have H3 := Lib.hid (H2.out.below hb3); clear ht3 hb3)
      go_quiet ((go_at_call 26; exact Calls.quiet_of_same (HPG.out _ _ H3.out _)))
      obtain ⟨w4, hw4⟩ : ∃ V, w3.drewN nq = V := ⟨_, rfl⟩
      rw [hw4]
      have H4 := Lib.hid (show FsX (low W) w4 b bm 60 left D by rw [← hw4]; exact H3.out.drewN nq)
      have F4 := Lib.hid (show Fr (fun k => ¬ low W k) W w4 by rw [← hw4]; exact F3.out.trans (Fr.drewN _ _ _))
      clear hw4 p0 c0 c1 i0 i1 i2 i3 i4 k0 k1 k2 k4 k5 k6
      have j1 : (i : Int) < 4096 := by have := HIM.out; omega
      have j2 : (t : Int) < 128 := by have := HT8.out; omega
      go_wp2_with (first
        | (go_at_call 14; refine (c_read (HR1.out _ (by have := HL5.out.1; omega)) HS.out H5.out).mono ?_; rintro e w6 ⟨rfl, h6, hf6⟩; obtain ⟨W7, cc, C, hcv, hW7, hbl7, hC⟩ := bytes_of w6 x; have H6 := Lib.hid h6; have F6 := Lib.hid hf6; have HW7 := Lib.hid hW7; have B7 := Lib.hid hbl7; have HC := Lib.hid hC; rw [HX8.out] at hcv; clear h6 hf6 hW7 hbl7 hC)
        | (go_at_call 33; refine (all_n HO.out HNO.out H4.out).mono ?_; rintro e w5 ⟨A5, c5, l5, rfl, ht5, hl1, hl2, h5, hf5⟩; have T5 := Lib.hid ht5; have H5 := Lib.hid h5; have F5 := Lib.hid hf5; have HL5 := Lib.hid (And.intro hl1 hl2); clear ht5 h5 hf5 hl1 hl2))
      obtain ⟨Z, hZ⟩ : ∃ Z : Nat → Prop, Z = fun k => Xw (low W) w4 w5 k ∨ (w6.heap.size ≤ k ∧ k < W7.heap.size) := ⟨_, rfl⟩
      have H7 := Lib.hid (show FsX Z W7 b bm 60 (l5 - 1) D by rw [hZ]; exact H6.out.widen B7.out)
      have HZ6 := Lib.hid (show Z w6.heap.size by rw [hZ]; exact .inr ⟨Nat.le_refl _, lt_of_heap HW7.out⟩)
      have HZl := Lib.hid (show ∀ k, low W k → Z k by rw [hZ]; exact fun k hk => .inl (.inl hk))
      have HZt := Lib.hid (show ∀ k, w4.heap.size ≤ k → k < w5.heap.size → Z k by rw [hZ]; exact fun k h1 h2 => .inl (.inr ⟨h1, h2⟩))
      have T7 := Lib.hid ((T5.out.fr F6.out (fun k h1 h2 h3 => h3 (.inr ⟨h1, h2⟩))).below B7.out)
      have F7 := Lib.hid (((F4.out.trans F5.out).trans (F6.out.mono fun k hk hl => hk (.inl hl))).trans ((Fr.of_below B7.out).mono (fun _ e => e.elim)))
      have hts : t < x.size := by have := HX8.out; have := HT8.out; omega
      obtain ⟨z, hz⟩ : ∃ z, x.data[t]'hts = z := ⟨_, rfl⟩
      have HCt := Lib.hid (show C[t]? = some (.int .u8 (z.toNat : Int)) by rw [← hz]; exact HC.out t hts)
      have HYz := Lib.hid (show y = ⟨x.data.setIfInBounds t (z ^^^ u)⟩ by
        rw [← HY.out, ← hz]
        unfold flipB
        have : x.data.getD t 0 = x.data[t]'hts := by unfold Array.getD; exact dif_pos hts
        rw [this])
      have HTS := Lib.hid hts
      have HXC := Lib.hid (fun (V : World) (hf : Fr (fun k => ¬ Z k) W7 V) => show V.heap[w6.heap.size]? = some (.cells C 5 (C.size, C.size + 1)) from hf.keep HW7.out (fun e => e HZ6.out))
      clear hZ hz hts hcv k7
      go_wp2_with (go_at_call 35; refine (c_flip HF1.out HS.out H7.out).mono ?_; rintro e w8 ⟨rfl, h8, hf8⟩; have H8 := Lib.hid h8; have F8 := Lib.hid hf8; have hh := HXC.out w8 hf8; have cz := cell_of_heap (i := t) hh HCt.out; have cf : w8.frozen? ⟨w6.heap.size, t, none⟩ = false := (by have := (Array.getElem?_eq_some_iff.1 HCt.out).1; simp [World.frozen?, hh]; omega); have HH8 := Lib.hid hh; clear hh h8 hf8)
      obtain ⟨w9, hw9⟩ : ∃ V, w8.setCell ⟨w6.heap.size, t, none⟩ (.int .u8 (bits .xor .u8 (z.toNat : Int) (u.toNat : Int))) = V := ⟨_, rfl⟩
      rw [hw9]
      have hs9 : Fr (fun k => k = w6.heap.size) w8 w9 := by rw [← hw9]; exact Fr.setCell w8 ⟨w6.heap.size, t, none⟩ _
      have H9 := Lib.hid (H8.out.keepX hs9 (fun k e => by subst e; exact HZ6.out))
      have HH9 := Lib.hid (show w9.heap[w6.heap.size]? = some (.cells (C.setIfInBounds t (.int .u8 ((z ^^^ u).toNat : Int))) 5 (C.size, C.size + 1)) by rw [← hw9, heap_setCell_at HH8.out, bits_xor_u8])
      have T9 := Lib.hid ((T7.out.fr F8.out (fun k h1 h2 h3 => h3 (HZt.out k h1 h2))).fr hs9 (fun k h1 h2 e => by subst e; have := F6.out.size; omega))
      have F9 := Lib.hid ((F7.out.trans (F8.out.mono fun k hk hl => hk (HZl.out k hl))).trans (hs9.mono fun k e hl => by
        subst e
        have h1 := F4.out.size
        have h2 := F5.out.size
        have h3 := F6.out.size
        have : w6.heap.size < W.heap.size := hl
        omega))
      clear hw9 hs9 cz cf
      go_wp2_with (first
        | (go_at_call 33; refine (all_n HSET.out HNO2.out H10.out).mono ?_; rintro e w11 ⟨A11, c11, l11, rfl, ht11, _, _, h11, hf11⟩; have T11 := Lib.hid ht11; have T51 := Lib.hid (T10.out.fr hf11 (fun k h1 h2 h3 => h3 (HZt.out k h1 h2))); have H11 := Lib.hid (h11.narrow (fun k hk => .inl hk)); have HH11 := Lib.hid (hf11.keep HH10.out (fun e => e HZ6.out)); have F11 := Lib.hid (F10.out.trans (hf11.mono fun k hk hl => hk (HZl.out k hl))); clear ht11 h11 hf11)
        | (go_at_call 14; refine (c_read (HR2.out _ (by have := HL5.out.1; omega)) HS.out H9.out).mono ?_; rintro e w10 ⟨rfl, h10, hf10⟩; have H10 := Lib.hid h10; have T10 := Lib.hid (T9.out.fr hf10 (fun k h1 h2 h3 => h3 (HZt.out k h1 h2))); have HH10 := Lib.hid (hf10.keep HH9.out (fun e => e HZ6.out)); have F10 := Lib.hid (F9.out.trans (hf10.mono fun k hk hl => hk (HZl.out k hl))); clear h10 hf10))
      have hno8 := HNO8.out
      go_loopw [18, 20] (fun q i wi => ∃ k : Nat, k ≤ no ∧ i = .int .i64 k ∧ q = .int .i64 (cnt pos x y k : Nat) ∧ Below w11.heap.size w11 wi) (fun _ i _ => no - (intOf i).toNat)
      case atStart => exact ⟨0, by omega, rfl, by simp [cnt], Below.refl _ _⟩
      case round =>
        obtain ⟨k, hk, rfl, rfl, hb⟩ := hrel
        have HB := Lib.hid hb
        by_cases hlt : k < no
        · obtain ⟨a, ha⟩ : ∃ a, O[k]? = some a := ⟨_, List.getElem?_eq_getElem (by have := HNO.out; omega)⟩
          obtain ⟨a', ha'⟩ : ∃ a, (O.set pos y)[k]? = some a := ⟨_, List.getElem?_eq_getElem (by have := HNO2.out; omega)⟩
          have HSTEP := Lib.hid (cnt_step HPOS.out ha ha')
          obtain ⟨g5, o5, e5, _, q5⟩ := lies_s (T51.out.below hb).lies ha
          obtain ⟨g6, o6, e6, _, q6⟩ := lies_s (T11.out.below hb).lies ha'
          subst e5 e6
          have i1 : (k : Int) < (no : Int) := by omega
          have i2 : (k : Int) < 8192 := by omega
          have hc1 := cnt_le pos x y k
          generalize cnt pos x y k = d at hc1 HSTEP
          by_cases he : a' = a
          · have e3 : (a'.toList == a.toList) = true := by rw [he]; exact beq_self_eq_true _
            rw [if_pos he] at HSTEP
            clear ha ha' hb he
            go_wp2
            go_quiet (fail)
            go_wp2
            go_roundw
            case rel => exact ⟨k + 1, by omega, by go_num, by rw [HSTEP.out]; go_num, HB.out.trans ((below_drewNg wr _).mono HB.out.size)⟩
            case measure => simp [intOf]; omega
          · have e3 : (a'.toList == a.toList) = false := by
              rw [ByteArray.toList_eq, ByteArray.toList_eq, beq_eq_false_iff_ne]
              exact fun e => he (nm_inj e)
            rw [if_neg he] at HSTEP
            have i3 : (d : Int) < 2 := by omega
            clear ha ha' hb he
            go_wp2
            go_quiet (fail)
            go_wp2
            go_roundw
            case rel => exact ⟨k + 1, by omega, by go_num, by rw [HSTEP.out]; go_num, HB.out.trans ((below_drewNg wr _).mono HB.out.size)⟩
            case measure => simp [intOf]; omega
        · obtain rfl : k = no := by omega
          have HBK := Lib.hid (c_flip (HF2.out (H11.out.below hb).rise) HS.out (H11.out.below hb))
          have TR := Lib.hid (T51.out.below hb)
          have FR := Lib.hid (F11.out.trans ((Fr.of_below hb).mono (fun _ e => e.elim)))
          have kt := text_of (c := cc) ((hb.block _ (lt_of_heap HH11.out)).trans HH11.out) HTS.out HC.out
          rw [show x.size = 128 from HX8.out, ← HYz.out] at kt
          have hpn : pos < k := by rw [← HNO.out]; exact (List.getElem?_eq_some_iff.1 HPOS.out).1
          by_cases hu : u = 0
          · have e2 : cnt pos x y k = 0 := by
              have : y = x := by rw [← HY.out, hu, flip_zero HTS.out]
              unfold cnt
              rw [if_neg (by simp [this])]
            rw [e2]
            subst hu
            have hu0 : ((0 : UInt8).toNat : Int) = 0 := rfl
            have HBK := Lib.hid (c_flip0 (HF2.out (H11.out.below hb).rise) HS.out (H11.out.below hb))
            clear hb hpn e2
            go_wp2_with (first
              | (go_at_call 15; refine (does_at _).mono ?_; rintro e w17 ⟨rfl, hb17⟩; have B17 := Lib.hid (below_low (fr_low (w0 := w) HB0.out (F16.out.mono (fun k hk hl => hk (Nat.lt_trans hl HZ.out)))) hb17); clear hb17)
              | (go_at_call 35; refine (c_flip0 (HF4.out _) HS.out H15.out).mono ?_; rintro e w16 ⟨rfl, h16, hf16⟩; have F16 := Lib.hid (F15.out.trans (hf16.mono fun k hk hl => hk (HZl.out k hl))); clear h16 hf16)
              | (go_at_call 35; refine (c_flip0 HF3.out HS.out H14.out).mono ?_; rintro e w15 ⟨rfl, h15, hf15⟩; have H15 := Lib.hid h15; have F15 := Lib.hid (F14.out.trans (hf15.mono fun k hk hl => hk (HZl.out k hl))); clear h15 hf15)
              | (go_at_call 23; refine (texts_n HNO.out T13.out.lies T53.out.lies (Nat.le_trans HNO8.out (by decide))).mono ?_; rintro e w14 ⟨rfl, hb14⟩; have H14 := Lib.hid (H13.out.below hb14); have F14 := Lib.hid (F13.out.trans ((Fr.of_below hb14).mono (fun _ e => e.elim))); clear hb14)
              | (go_at_call 33; refine (all_n HO.out HNO.out H12.out).mono ?_; rintro e w13 ⟨A13, c13, l13, rfl, ht13, _, _, h13, hf13⟩; have T13 := Lib.hid ht13; have T53 := Lib.hid (T52.out.fr hf13 (fun k h1 h2 h3 => h3 (HZt.out k h1 h2))); have H13 := Lib.hid (h13.narrow (fun k hk => .inl hk) : FsX Z w13 b bm 60 l13 D); have F13 := Lib.hid (F12.out.trans (hf13.mono fun k hk hl => hk (HZl.out k hl))); clear ht13 h13 hf13)
              | (go_at_call 35; refine HBK.out.mono ?_; rintro e w12 ⟨rfl, h12, hf12⟩; have H12 := Lib.hid h12; have T52 := Lib.hid (TR.out.fr hf12 (fun k h1 h2 h3 => h3 (HZt.out k h1 h2))); have F12 := Lib.hid (FR.out.trans (hf12.mono fun k hk hl => hk (HZl.out k hl))); clear h12 hf12))
            go_ret
            exact ⟨rfl, B17.out⟩
          · have hz0 : (u.toNat : Int) ≠ 0 := by
              intro e
              apply hu
              have h0 : u.toNat = 0 := by omega
              exact UInt8.toNat_inj.1 h0
            have e1 : ((u.toNat : Int) != 0) = true := by simpa using hz0
            have e2 : cnt pos x y k = 1 := by
              have : y ≠ x := by rw [← HY.out]; exact flip_ne HTS.out hu
              unfold cnt
              rw [if_pos ⟨hpn, this⟩]
            rw [e2]
            clear hb hpn hu e2 hz0
            go_wp2_with (first
              | (go_at_call 15; refine (does_at _).mono ?_; rintro e w17 ⟨rfl, hb17⟩; have B17 := Lib.hid (below_low (fr_low (w0 := w) HB0.out (F16.out.mono (fun k hk hl => hk (Nat.lt_trans hl HZ.out)))) hb17); clear hb17)
              | (go_at_call 35; refine (c_flip (HF4.out _) HS.out H15.out).mono ?_; rintro e w16 ⟨rfl, h16, hf16⟩; have F16 := Lib.hid (F15.out.trans (hf16.mono fun k hk hl => hk (HZl.out k hl))); clear h16 hf16)
              | (go_at_call 35; refine (c_flip HF3.out HS.out H14.out).mono ?_; rintro e w15 ⟨rfl, h15, hf15⟩; have H15 := Lib.hid h15; have F15 := Lib.hid (F14.out.trans (hf15.mono fun k hk hl => hk (HZl.out k hl))); clear h15 hf15)
              | (go_at_call 23; refine (texts_n HNO.out T13.out.lies T53.out.lies (Nat.le_trans HNO8.out (by decide))).mono ?_; rintro e w14 ⟨rfl, hb14⟩; have H14 := Lib.hid (H13.out.below hb14); have F14 := Lib.hid (F13.out.trans ((Fr.of_below hb14).mono (fun _ e => e.elim))); clear hb14)
              | (go_at_call 33; refine (all_n HO.out HNO.out H12.out).mono ?_; rintro e w13 ⟨A13, c13, l13, rfl, ht13, _, _, h13, hf13⟩; have T13 := Lib.hid ht13; have T53 := Lib.hid (T52.out.fr hf13 (fun k h1 h2 h3 => h3 (HZt.out k h1 h2))); have H13 := Lib.hid (h13.narrow (fun k hk => .inl hk) : FsX Z w13 b bm 60 l13 D); have F13 := Lib.hid (F12.out.trans (hf13.mono fun k hk hl => hk (HZl.out k hl))); clear ht13 h13 hf13)
              | (go_at_call 35; refine HBK.out.mono ?_; rintro e w12 ⟨rfl, h12, hf12⟩; have H12 := Lib.hid h12; have T52 := Lib.hid (TR.out.fr hf12 (fun k h1 h2 h3 => h3 (HZt.out k h1 h2))); have F12 := Lib.hid (FR.out.trans (hf12.mono fun k hk hl => hk (HZl.out k hl))); clear h12 hf12))
            go_ret
            exact ⟨rfl, B17.out⟩
  · go_ret
    exact ⟨rfl, HB0.out⟩
theorem flip_all (A : Option Addr) (len cap : Nat) (L : List Ac) (x y : Int) (z : Int) (W : World) (hl : L.length = len) (hm : len ≤ maxLen) (hL : Lies encA 6 W A L) (hA : ∀ a ∈ L, AcAt W a) (hx : (Lit.int .u16 x).wf = true) (hy : (Lit.int .u16 y).wf = true) (hz : (Lit.int .u8 z).wf = true) :
    Calls Try.prog 9 #[.slice A len cap, .agg #[.int .u16 x, .int .u16 y], .int .u8 z] W fun e w' => e = .returned (.bool true) ∧ Below W.heap.size W w' := by
  subst hl
  have h16 : ∀ x : Int, (Lit.int .u16 x).wf = true → ∃ k : Nat, x = k ∧ k ≤ 65535 := by
    intro x hx
    simp only [Lit.wf, IntKind.min, IntKind.max, IntKind.signed, IntKind.bits] at hx
    simp at hx
    exact ⟨x.toNat, by omega, by omega⟩
  obtain ⟨a0, rfl, h0⟩ := h16 x hx
  obtain ⟨a1, rfl, h1⟩ := h16 y hy
  obtain ⟨u, rfl⟩ := u8_byte hz
  exact flip_law A cap L a0 a1 u W hL hm hA h0 h1
end Go.Proofs.Ytnpdnnaemfdinaa.F
