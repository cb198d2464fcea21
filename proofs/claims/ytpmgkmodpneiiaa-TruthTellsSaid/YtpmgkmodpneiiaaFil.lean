/- bits.Mul by one, slices.Repeat of one number, fill. Conditions: those that each theorem names. -/
import Derived.Shelf.Bits.Mul64
import Derived.Laws.CopyOwn
import Derived.Test.YtpmgkmodpneiiaaNum
namespace Go.Proofs.Ytpmgkmodpneiiaa.E
open Go.RowKit Go.Sort Go.Shelf
open Go.Proofs.Ytpmgkmodpneiiaa.Ma
set_option linter.unusedVariables false
set_option linter.unusedSimpArgs false
theorem mul64_at (n : Nat) (hn : n ≤ 100000) (w : World) : Calls Try.prog 71 #[.int .u64 1, .int .u64 (n : Int)] w fun e w' => e = .returned (.tuple #[.int .u64 0, .int .u64 (n : Int)]) ∧ w = w' := by
  have m1 : bits .and .u64 (1 : Int) 4294967295 = 1 := by decide
  have m0 : bits .and .u64 (0 : Int) 4294967295 = 0 := by decide
  have m2 : bits .and .u64 (n : Int) 4294967295 = (n : Int) := by rw [Mul64.maskN n (by omega)]; omega
  have d2 : (n : Int) / 4294967296 = 0 := by omega
  have v2 : IntKind.u64.wrap (n : Int) = (n : Int) := Mul64.wrapN n (by omega)
  have v0 : IntKind.u64.wrap (0 : Int) = 0 := by decide
  have v1 : IntKind.u64.wrap (1 : Int) = 1 := by decide
  go_enter Try.func71, Try.ntmps71
  go_wp2
  go_ret2
  exact ⟨rfl, rfl⟩
theorem mul_at (n : Nat) (hn : n ≤ 100000) (w : World) : Calls Try.prog 59 #[.int .u64 1, .int .u64 (n : Int)] w fun e w' => e = .returned (.tuple #[.int .u64 0, .int .u64 (n : Int)]) ∧ w = w' := by
  have HM := Lib.hid (mul64_at n hn w)
  go_enter Try.func59, Try.ntmps59
  go_wp2_with (go_at_call 71; refine HM.out.mono ?_; rintro e w' ⟨rfl, rfl⟩)
  go_ret2
  exact ⟨rfl, rfl⟩
theorem info37 : (Try.prog.info? 37).map (fun i => (i.zero, i.size, i.bytes)) = some (some (.int .u64 0), 1, 8) := by kernel_rfl
def rowU (m n : Nat) (x : Int) : List Value := List.replicate m (.int .u64 x) ++ List.replicate (n - m) (.int .u64 0)
theorem make_u (N : Nat) (h : N ≤ 1000) (w : World) : (Instr.makeSlice 28 (.int .i64 (N : Int)) (.int .i64 (N : Int))).run Try.prog w = .ok (.slice (some ⟨w.heap.size, 0, none⟩) N N) (w.alloc (.cells (rowU 0 N 0).toArray 37 (0, 0))) := by
  obtain ⟨i0, hi, hz0, hz1, hz2⟩ := info_parts info37
  have hr := run_makeSlice (P := Try.prog) w 28 37 i0 _ Try.underlying28 hi hz0 .i64 .i64 (N : Int) (N : Int) (by omega) (by omega) (by rw [hz1]; omega) (by rw [hz2]; omega) (by omega)
  rw [hr]
  have e : madeCells (Value.int IntKind.u64 0).cells ((N : Int).toNat * i0.size) = (rowU 0 N 0).toArray := by
    apply Array.ext'
    rw [show (Value.int IntKind.u64 0).cells = #[Value.int IntKind.u64 0] from rfl, toList_madeCells_one, hz1]
    simp [rowU]
  rw [e]
  simp
theorem rowU_len (m n : Nat) (x : Int) (h : m ≤ n) : (rowU m n x).length = n := by unfold rowU; simp; omega
theorem rowU_step {m n q : Nat} {x : Int} (h : m + q ≤ n) : (rowU m n x).take m ++ (List.replicate q (.int .u64 x) ++ (rowU m n x).drop (m + q)) = rowU (m + q) n x := by
  unfold rowU
  rw [List.take_append_of_le_length (by simp), List.take_of_length_le (by simp), List.drop_append, List.drop_of_length_le (by simp), List.nil_append, List.drop_replicate, List.length_replicate, ← List.append_assoc, List.replicate_append_replicate, show n - m - (m + q - m) = n - (m + q) by omega]
theorem rowU_get {m n j : Nat} {x : Int} (h : j < m) : (rowU m n x)[j]? = some (.int .u64 x) := by
  unfold rowU
  rw [List.getElem?_append_left (by simpa using h), List.getElem?_replicate, if_pos h]
theorem size37 : (Try.prog.info? 37).map (·.size) = some 1 := by kernel_rfl
theorem copy_u {w0 w : World} {g m n s q c c' : Nat} {x y : Int} {ad : Addr} (hg0 : w0.heap.size ≤ g) (hb : Below w0.heap.size w0 w) (hg : w.heap[g]? = some (.cells (rowU m n (if m = 0 then y else x)).toArray 37 (0, 0))) (hm : m ≤ n) (hq : q = Nat.min s (n - m)) (hsrc : ∀ k, k < q → w.cell? (ad.add k) = some (.int .u64 x)) :
    ∃ w2, (∀ ty, (Builtin.copy_ #[28, 28] ty #[.slice (some ⟨g, m, none⟩) (n - m) c', .slice (some ad) s c]).run Try.prog w = .ok (.int .i64 (q : Int)) w2) ∧ w2.heap[g]? = some (.cells (rowU (m + q) n x).toArray 37 (0, 0)) ∧ Below w0.heap.size w0 w2 := by
  have hq2 : m + q ≤ n := by rw [hq]; have : Nat.min s (n - m) ≤ n - m := Nat.min_le_right _ _; omega
  have hr := fun ty => run_copy_row (P := Try.prog) w 28 28 ty 37 g m (n - m) c' ad s c _ 37 (List.replicate q (.int .u64 x)) Try.underlying28 size37 hg (by rw [List.length_replicate, hq]) (fun k v hk => by
    have hkq := (List.getElem?_eq_some_iff.1 hk).1
    rw [List.length_replicate] at hkq
    rw [List.getElem?_replicate, if_pos hkq] at hk
    cases hk
    exact hsrc k hkq) (by rw [List.length_replicate, List.size_toArray, rowU_len _ _ _ hm]; exact hq2) (by
    intro v hv
    obtain ⟨_, rfl⟩ := List.mem_replicate.1 hv
    rfl)
  refine ⟨_, fun ty => by rw [hr ty, List.length_replicate]; rfl, ?_, below_setRow hb hg0 _⟩
  rw [setRow_heap w g _ _ 37 _ hg]
  have e : (rowU m n (if m = 0 then y else x)).take m ++ List.replicate q (.int .u64 x) ++ (rowU m n (if m = 0 then y else x)).drop (m + q) = rowU (m + q) n x := by
    by_cases h0 : m = 0
    · subst h0
      rw [if_pos rfl, List.take_zero, List.nil_append, Nat.zero_add]
      unfold rowU
      rw [List.replicate_zero, List.nil_append, List.drop_replicate, Nat.sub_zero]
    · rw [if_neg h0, List.append_assoc, rowU_step hq2]
  simp only [List.length_replicate]
  rw [← e]
set_option maxRecDepth 100000 in
set_option maxHeartbeats 2000000 in
theorem rep_at (x : Int) (n b : Nat) (h1 : 1 ≤ n) (hn : n ≤ 256) (w : World) (hb : w.heap[b]? = some (.cells #[.int .u64 x] 37 (0, 0))) :
    Calls Try.prog 54 #[.slice (some ⟨b, 0, none⟩) 1 1, .int .i64 (n : Int)] w fun e w' => ∃ g, e = .returned (.slice (some ⟨g, 0, none⟩) n n) ∧ w'.heap[g]? = some (.cells (rowU n n x).toArray 37 (0, 0)) ∧ w.heap.size ≤ g ∧ Below w.heap.size w w' := by
  have HM := Lib.hid (mul_at n (by omega) w)
  have hmk := fun V => make_u n (by omega) V
  have v2 : IntKind.u64.wrap (n : Int) = (n : Int) := Mul64.wrapN n (by omega)
  have v3 : IntKind.i64.wrap (n : Int) = (n : Int) := IntWalk.i64_in _ ⟨by omega, by omega⟩
  have v1 : IntKind.u64.wrap (1 : Int) = 1 := by decide
  have i1 : ¬ (n : Int) < 0 := by omega
  have i2 : (n : Int) ≤ 256 := by omega
  have HB := Lib.hid hb
  obtain ⟨W, hW, gW, hbl, hsz⟩ := box_new w (.cells (rowU 0 n 0).toArray 37 (0, 0))
  have HW := Lib.hid gW
  have HBL := Lib.hid hbl
  have hc1 : W.cell? ⟨b, 0, none⟩ = some (.int .u64 x) := (hbl.cell (p := ⟨b, 0, none⟩) (lt_of_heap hb)).trans (cell_of_heap (i := 0) hb rfl)
  obtain ⟨W2, hcp, hg2, hb2⟩ := copy_u (m := 0) (q := 1) (s := 1) (c := 1) (c' := n) (x := x) (y := 0) (ad := ⟨b, 0, none⟩) (Nat.le_refl _) hbl gW (by omega) (by show 1 = min 1 (n - 0); omega) (by intro k hk; obtain rfl : k = 0 := (by omega); exact hc1)
  have HG2 := Lib.hid hg2
  have HB2 := Lib.hid hb2
  rw [Nat.sub_zero] at hcp
  have H1 := Lib.hid h1
  clear gW hbl hsz hb hc1 hg2 hb2
  go_enter Try.func54, Try.ntmps54
  go_wp2_with (go_at_call 59; refine HM.out.mono ?_; rintro e w' ⟨rfl, rfl⟩)
  go_loopw [8] (fun i wi => ∃ m : Nat, 1 ≤ m ∧ m ≤ n ∧ i = .int .i64 m ∧ wi.heap[w.heap.size]? = some (.cells (rowU m n x).toArray 37 (0, 0)) ∧ Below w.heap.size w wi) (fun i _ => n - (intOf i).toNat)
  case atStart => exact ⟨1, Nat.le_refl _, H1.out, rfl, HG2.out, HB2.out⟩
  case round =>
    obtain ⟨m, hm1, hm, rfl, hg, hb⟩ := hrel
    have HG := Lib.hid hg
    have HBB := Lib.hid hb
    by_cases hlt : m < n
    · obtain ⟨q, hq⟩ : ∃ q, Nat.min m (n - m) = q := ⟨_, rfl⟩
      have hq1 : 1 ≤ q ∧ m + q ≤ n := by rw [← hq]; constructor <;> (show _ ≤ _; simp only [Nat.min_def]; split <;> omega)
      have j1 : (m : Int) < (n : Int) := by omega
      have j2 : (m : Int) ≤ (n : Int) := by omega
      have j3 : (0 : Int) ≤ (m : Int) := by omega
      have HQ := Lib.hid (And.intro hq hq1)
      clear hg hb hq hq1
      go_wp2
      have hbd : Below w.heap.size w wr.drew := HBB.out.drew
      have hgd : wr.drew.heap[w.heap.size]? = some (.cells (rowU m n x).toArray 37 (0, 0)) := HG.out
      obtain ⟨W3, hcp3, hg3, hb3⟩ := copy_u (m := m) (q := q) (s := m) (c := n) (c' := n - m) (n := n) (x := x) (y := 0) (ad := ⟨w.heap.size, 0, none⟩) (Nat.le_refl _) hbd (by rw [if_neg (by omega)]; exact hgd) hm HQ.out.1.symm (by
        intro k hk
        have e : (⟨w.heap.size, 0, none⟩ : Addr).add k = ⟨w.heap.size, k, none⟩ := by unfold Addr.add; split <;> simp_all
        rw [e]
        refine cell_of_heap hgd ?_
        have hkm : k < m := Nat.lt_of_lt_of_le hk (by rw [← HQ.out.1]; exact Nat.min_le_left _ _)
        have := rowU_get (n := n) (x := x) hkm
        simpa using this)
      have HG3 := Lib.hid hg3
      have HB3 := Lib.hid hb3
      have HQ2 := HQ.out.2
      clear hbd hgd hg3 hb3
      have j4 : IntKind.i64.wrap ((m : Int) + (q : Int)) = (m : Int) + (q : Int) := IntWalk.i64_in _ ⟨by omega, by omega⟩
      have j5 : (m : Int) + (q : Int) ≤ 256 := by omega
      go_region
      go_wp2
      go_roundw
      case rel => exact ⟨m + q, by omega, HQ2.2, by go_num, HG3.out, HB3.out⟩
      case measure => simp [intOf]; omega
    · obtain rfl : m = n := by omega
      clear hg hb
      go_wp2
      go_ret
      exact ⟨_, rfl, HG.out, Nat.le_refl _, HBB.out⟩
/-- A row of uint64s, all the same. -/
theorem fill_at (x : Int) (n : Nat) (h1 : 1 ≤ n) (hn : n ≤ 256) (w : World) :
    Calls Try.prog 47 #[.int .i64 (n : Int), .int .u64 x] w fun e w' => ∃ g, e = .returned (.slice (some ⟨g, 0, none⟩) n n) ∧ w'.heap[g]? = some (.cells (List.replicate n (.int .u64 x)).toArray 37 (0, 0)) ∧ w.heap.size ≤ g ∧ Below w.heap.size w w' := by
  obtain ⟨W, hW, gW, hbl, hsz⟩ := box_new w (.cells #[.int .u64 x] 37 (0, 0))
  have HR := Lib.hid (rep_at x n w.heap.size h1 hn W gW)
  have HB := Lib.hid hbl
  clear gW hbl hsz h1 hn
  go_enter Try.func47, Try.ntmps47
  go_wp2_with (go_at_call 54; refine HR.out.mono ?_; rintro e w2 ⟨g, rfl, hg, hg0, hb2⟩; have HG := Lib.hid hg; have HG0 := Lib.hid hg0; have B2 := Lib.hid hb2; clear hg hg0 hb2)
  go_ret
  refine ⟨g, rfl, ?_, Nat.le_trans HB.out.size HG0.out, HB.out.trans (B2.out.mono HB.out.size)⟩
  have := HG.out
  unfold rowU at this
  rw [Nat.sub_self, List.replicate_zero, List.append_nil] at this
  exact this
end Go.Proofs.Ytpmgkmodpneiiaa.E
