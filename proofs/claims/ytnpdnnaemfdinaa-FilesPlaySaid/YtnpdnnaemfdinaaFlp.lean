/- Flip. Conditions: those that each theorem names. -/
import Derived.Laws.IdiomStrings
import Derived.Lib.ConvBytes
import Derived.Test.YtnpdnnaemfdinaaRmv
namespace Go.Proofs.Ytnpdnnaemfdinaa.F
open Go.RowKit Go.Maps Go.Sort Go.Shelf
open Go.Proofs.Ytnpdnnaemfdinaa.Ma
set_option linter.unusedVariables false
set_option linter.unusedSimpArgs false
theorem region_tail {P : Program} {id : Nat} {Q : Exit → Act → World → Prop} {a : Act} {w : World} {l : List Oper} (n : Nat) (hm : P.follows .mixedOrders = true) (hB : Region.lexTailB .any l.toArray n = true)
    (h : ∀ wd : World, wd = w.drew → wpStill P l.toArray wd (fun a' => wpList P l.toArray Q (l.drop n) a' wd) (l.take n) a) : (Code.region id l.toArray true).wp P Q a w :=
  wp_region_still_tail n hm hB (h w.drew rfl)
/-- A text's bytes in new memory. -/
theorem bytes_of (w : World) (y : ByteArray) : ∃ W1 c C, (convert 9 66 (.string y)).run Try.prog w = .ok (.slice (some ⟨w.heap.size, 0, none⟩) y.size c) W1 ∧ W1.heap[w.heap.size]? = some (.cells C 5 (C.size, C.size + 1)) ∧
    Below w.heap.size w W1 ∧ (∀ j (hj : j < y.size), C[j]? = some (.int .u8 ((y.data[j]'hj).toNat : Int))) := by
  refine ⟨_, _, _, Lib.run_convert_string_bytes (P := Try.prog) w 9 66 5 y Try.underlying9 Try.underlying66 Try.underlying5, Lib.bytesWorld_at_new w 5 y, ?_, fun j hj => ?_⟩
  · exact ⟨rfl, rfl, rfl, by rw [Lib.bytesWorld_size]; omega, fun k hk => Lib.bytesWorld_at_old w 5 y k hk⟩
  · have := Lib.bytesWorld_cell w 5 y j hj
    simp only [World.cell?, Lib.bytesWorld_at_new] at this
    simp at this
    rw [this]
    simp [List.getD, hj]
/-- .. and back, one of them turned. -/
theorem text_of {w : World} {g c j : Nat} {C : Array Value} {fz : Nat × Nat} {y : ByteArray} {u : UInt8} (h : w.heap[g]? = some (.cells (C.setIfInBounds j (.int .u8 (u.toNat : Int))) 5 fz)) (hj : j < y.size) (hC : ∀ j (hj : j < y.size), C[j]? = some (.int .u8 ((y.data[j]'hj).toNat : Int))) :
    (convert 66 9 (.slice (some ⟨g, 0, none⟩) y.size c)).run Try.prog w = .ok (.string ⟨y.data.setIfInBounds j u⟩) w := by
  have h1 := run_convert_bytes_back (P := Try.prog) w 66 9 5 ⟨g, 0, none⟩ c (y.data.toList.set j u) Try.underlying66 Try.underlying5 Try.underlying9 (fun k hk => by
    have hk' : k < y.size := by
      have : (y.data.toList.set j u).length = y.size := by rw [List.length_set, Array.length_toList]; rfl
      omega
    have e : (⟨g, 0, none⟩ : Addr).add k = ⟨g, k, none⟩ := by unfold Addr.add; split <;> simp_all
    rw [e]
    have hCs : j < C.size := (Array.getElem?_eq_some_iff.1 (hC j hj)).1
    simp only [World.cell?, h]
    rw [Array.getElem?_setIfInBounds]
    by_cases hjk : j = k
    · subst hjk
      rw [if_pos rfl, if_pos hCs]
      simp
    · rw [if_neg hjk, hC k hk']
      rw [List.getElem_set_ne hjk]
      simp)
  have e1 : (y.data.toList.set j u).length = y.size := by rw [List.length_set, Array.length_toList]; rfl
  rw [e1] at h1
  rw [h1]
  have e2 : (y.data.toList.set j u).toArray = y.data.setIfInBounds j u := by
    apply Array.toList_inj.1
    rw [Array.toList_setIfInBounds]
  rw [e2]
theorem bits_xor_u8 (z u : UInt8) : bits .xor .u8 (z.toNat : Int) (u.toNat : Int) = ((z ^^^ u).toNat : Int) := by
  have hz := z.toNat_lt
  have hu := u.toNat_lt
  have hx : z.toNat ^^^ u.toNat < 2 ^ 8 := Nat.xor_lt_two_pow (by omega) (by omega)
  rw [UInt8.toNat_xor]
  show IntKind.u8.wrap ((BitVec.ofInt 8 (z.toNat : Int) ^^^ BitVec.ofInt 8 (u.toNat : Int)).toNat : Int) = _
  have h1 : (BitVec.ofInt 8 (z.toNat : Int)).toNat = z.toNat := by
    rw [BitVec.ofInt_natCast, BitVec.toNat_ofNat]; exact Nat.mod_eq_of_lt (by omega)
  have h2 : (BitVec.ofInt 8 (u.toNat : Int)).toNat = u.toNat := by
    rw [BitVec.ofInt_natCast, BitVec.toNat_ofNat]; exact Nat.mod_eq_of_lt (by omega)
  rw [BitVec.toNat_xor, h1, h2]
  simp only [IntKind.wrap, IntKind.bits, IntKind.signed]
  simp
  omega
section
variable {X : Nat → Prop} {w : World} {b bm : Nat} {room left : Int} {D : List De}
set_option maxRecDepth 100000 in
set_option maxHeartbeats 2000000 in
theorem x_flip (s : ByteArray) (hs : s.size ≤ maxLen) (i at_ : Int) (u : UInt8) (h : FsX X w b bm room left D) :
    Calls Try.prog 35 #[.pointer (some ⟨b, 0, none⟩), .string s, .int .i64 i, .int .i64 at_, .int .u8 (u.toNat : Int)] w fun e w' => e = .returned (.int .i64 (flipF D s i at_ u).1) ∧ FsX X w' b bm room left (flipF D s i at_ u).2 ∧ Fr (fun k => ¬ X k) w w' := by
  have HX := Lib.hid h
  have HT := Lib.hid (x_there s i hs h)
  obtain ⟨L, h1, h2, rfl⟩ := h.ex
  have H1 := Lib.hid h1
  have H2 := Lib.hid h2
  unfold flipF
  have hcs := thereC_cases L s i
  rw [there_dn] at hcs
  rcases hcs with h4 | ⟨h0, j, y, rfl, hy⟩
  · rw [if_pos h4]
    rw [h4] at HT
    clear h4 h h1 h2
    go_enter Try.func35, Try.ntmps35
    go_wp2_with (go_at_call 43; refine HT.out.mono ?_; rintro e w' ⟨rfl, rfl⟩)
    go_ret
    exact ⟨rfl, HX.out, Fr.refl _ _⟩
  rw [if_neg (by rw [h0]; decide)]
  rw [h0] at HT
  clear h0 h h2
  by_cases ha0 : at_ < 0
  · rw [if_pos (.inl ha0)]
    have hd : decide (at_ < 0) = true := decide_eq_true ha0
    clear hy h1
    go_enter Try.func35, Try.ntmps35
    go_wp2_with (go_at_call 43; refine HT.out.mono ?_; rintro e w' ⟨rfl, rfl⟩)
    go_ret
    exact ⟨rfl, HX.out, Fr.refl _ _⟩
  have hd0 : decide (at_ < 0) = false := decide_eq_false ha0
  by_cases ha1 : 128 ≤ at_
  · rw [if_pos (.inr ha1)]
    have hd : decide (128 ≤ at_) = true := decide_eq_true ha1
    clear hy h1
    go_enter Try.func35, Try.ntmps35
    go_wp2_with (go_at_call 43; refine HT.out.mono ?_; rintro e w' ⟨rfl, rfl⟩)
    go_ret
    exact ⟨rfl, HX.out, Fr.refl _ _⟩
  have hd1 : decide (128 ≤ at_) = false := decide_eq_false ha1
  rw [if_neg (by rintro (e | e) <;> contradiction)]
  obtain ⟨t, rfl⟩ : ∃ t : Nat, at_ = (t : Int) := ⟨at_.toNat, by omega⟩
  have ht : t < 128 := by omega
  rw [Int.toNat_natCast, Int.toNat_natCast, lookD_dn]
  have hgd : (F.look L s).2.getD j ⟨#[]⟩ = y := by simp [List.getD, hy]
  rw [hgd]
  have hy128 : y.size = 128 := by
    have hne : (F.look L s).2 ≠ [] := by
      intro e
      rw [e] at hy
      cases hy
    obtain ⟨q, hq, _, e⟩ := look_mem hne
    rw [e] at hy
    exact h1.full q hq y (List.mem_of_getElem? hy)
  have hts : t < y.size := by omega
  obtain ⟨z, hz⟩ : ∃ z, y.data[t]'hts = z := ⟨_, rfl⟩
  have hfl : flipB y t u = ⟨y.data.setIfInBounds t (z ^^^ u)⟩ := by
    unfold flipB
    rw [← hz]
    have : y.data.getD t 0 = y.data[t]'hts := by unfold Array.getD; exact dif_pos hts
    rw [this]
  obtain ⟨W1, cc, C, hcv, hW1, hbl, hC⟩ := bytes_of w y
  have hfs : (flipB y t u).size = 128 := by rw [hfl]; show (y.data.setIfInBounds t _).size = 128; rw [Array.size_setIfInBounds]; exact hy128
  obtain ⟨g, c, hA, _, _, q0, q1, hg, hq, hput⟩ := h1.put_in hy hfs
  have hl := h1.look hs
  rw [hA] at hl
  have c2 := h1.c2
  have cz : W1.cell? ⟨w.heap.size, t, none⟩ = some (.int .u8 (z.toNat : Int)) := cell_of_heap hW1 (by rw [hC t hts, hz])
  have cf : W1.frozen? ⟨w.heap.size, t, none⟩ = false := by
    have : t < C.size := (Array.getElem?_eq_some_iff.1 (hC t hts)).1
    simp [World.frozen?, hW1]
    omega
  have c2b := h1.below hbl |>.c2
  have lb := (h1.below hbl).look hs
  rw [hA] at lb
  have htn : (t : Int) < 128 := by omega
  have hjn : (j : Int) < ((F.look L s).2.length : Int) := by have := (List.getElem?_eq_some_iff.1 hy).1; omega
  rw [hy128] at hcv
  have HPI := Lib.hid hput
  have HQ := Lib.hid hq
  have HA := Lib.hid hA
  have HY := Lib.hid hy
  have HFL := Lib.hid hfl
  have HC := Lib.hid hC
  have HW := Lib.hid hW1
  have HBL := Lib.hid hbl
  have HTS := Lib.hid hts
  have HY128 := Lib.hid hy128
  obtain ⟨n, hn⟩ : ∃ n, (F.look L s).2.length = n := ⟨_, rfl⟩
  rw [hn] at hl lb hjn
  have HN := Lib.hid hn
  clear h1 hput hq hA hy hfl hC hW1 hbl hts hz hgd hn hfs ha0 ha1 ht hy128
  go_enter Try.func35, Try.ntmps35
  go_wp2_with (go_at_call 43; refine HT.out.mono ?_; rintro e w' ⟨rfl, rfl⟩)
  obtain ⟨W2, hW2⟩ : ∃ W2, W1.setCell ⟨w.heap.size, t, none⟩ (.int .u8 (bits .xor .u8 (z.toNat : Int) (u.toNat : Int))) = W2 := ⟨_, rfl⟩
  rw [hW2]
  have hb2 : Below w.heap.size w W2 := by rw [← hW2]; exact ((Fr.of_below HBL.out).step (Fr.setCell W1 ⟨w.heap.size, t, none⟩ _) (fun i e => .inr (by have e2 : i = w.heap.size := e; omega))).below (Nat.le_refl _) (fun i e => e.elim)
  have h2g : W2.heap[w.heap.size]? = some (.cells (C.setIfInBounds t (.int .u8 ((z ^^^ u).toNat : Int))) 5 (C.size, C.size + 1)) := by
    rw [← hW2, heap_setCell_at HW.out, bits_xor_u8]
  clear hW2
  refine region_tail 10 (by kernel_rfl) (by kernel_rfl) fun wd hwd => ?_
  simp only [List.take_succ_cons, List.take_zero, List.drop_succ_cons, List.drop_zero]
  have hbd : Below w.heap.size w wd := by rw [hwd]; exact hb2.drew
  have hdg : wd.heap[w.heap.size]? = some (.cells (C.setIfInBounds t (.int .u8 ((z ^^^ u).toNat : Int))) 5 (C.size, C.size + 1)) := by rw [hwd]; exact h2g
  clear hwd h2g hb2
  have k2 := (H1.out.below hbd).c2
  have kl := (H1.out.below hbd).look hs
  rw [HA.out, HN.out] at kl
  have kt := text_of (c := cc) hdg HTS.out HC.out
  rw [show y.size = 128 from HY128.out, ← HFL.out] at kt
  have HBD := Lib.hid hbd
  have kf := (Fr.of_below hbd).frozen q1 hg (fun e => e)
  have kc := hbd.cell (p := ⟨g, j, none⟩) hg
  rw [q0] at kc
  clear hdg hbd c2b lb cf cz hcv q0 q1 hl c2
  repeat still_step
  refine wpStill_nil ?_
  go_wp2
  go_ret
  obtain ⟨f1, f2⟩ := HPI.out wd HBD.out
  have hpd := pages_del (s := s) H1.out.rise
  have hrm2 := HX.out.rm.1
  rw [pages_dn] at hrm2
  obtain ⟨q, hq, hgo⟩ := HQ.out
  have := FsX.laidS HX.out H2.out s _ _ (by
    intro e3
    have h3 := HY.out
    have e4 : (F.look L s).2 = [] := by simpa using e3
    rw [e4] at h3
    cases h3) (fun g' hg' => by
    rw [HA.out] at hg'
    cases hg'
    exact H2.out q hq g hgo) f1 f2 (fun i e => by subst e; exact H2.out q hq i hgo) (by rw [List.length_set]; omega)
  exact ⟨rfl, this⟩
end
end Go.Proofs.Ytnpdnnaemfdinaa.F
