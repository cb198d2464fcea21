/- Bytes turned over: plain. And texts as rows of bytes. -/
import Derived.Laws.IdiomStrings
import Derived.Lib.ConvBytes
import Derived.Test.YtdlmkdldmiiaiaaBck
namespace Go.Proofs.Ytdlmkdldmiiaiaa.E
open Go.RowKit Go.Sort Go.Shelf
open Go.Proofs.Ytdlmkdldmiiaiaa.Ma Go.Proofs.Ytdlmkdldmiiaiaa.By Go.Proofs.Ytdlmkdldmiiaiaa.Enc
set_option linter.unusedVariables false
set_option linter.unusedSimpArgs false
def tB (b k : Nat) : UInt8 := UInt8.ofNat (b / 2 ^ (8 * k))
def turnK (l : List UInt8) (a b : Nat) : Nat → List UInt8
  | 0 => l
  | k + 1 => (turnK l a b k).set (a + k) ((l[a + k]?.getD 0) ^^^ tB b k)
theorem turn_len (l : List UInt8) (a b k : Nat) : (turnK l a b k).length = l.length := by
  induction k with
  | zero => rfl
  | succ k ih => rw [turnK, List.length_set, ih]
theorem turn_at (l : List UInt8) (a b j : Nat) : ∀ k, a + k ≤ j → (turnK l a b k)[j]? = l[j]?
  | 0, _ => rfl
  | k + 1, h => by rw [turnK, List.getElem?_set_ne (by omega), turn_at l a b j k (by omega)]
theorem turn_four (u v : List UInt8) (x0 x1 x2 x3 : UInt8) (b : Nat) : turnK (u ++ ([x0, x1, x2, x3] ++ v)) u.length b 4 = u ++ ([x0 ^^^ tB b 0, x1 ^^^ tB b 1, x2 ^^^ tB b 2, x3 ^^^ tB b 3] ++ v) := by
  simp [turnK, List.getElem?_append_right, List.set_append_right]
theorem xor_u8_self {z u : UInt8} (h : z ^^^ u = z) : u = 0 := by
  have h1 : z ^^^ (z ^^^ u) = z ^^^ z := by rw [h]
  rw [← UInt8.xor_assoc, UInt8.xor_self, UInt8.zero_xor] at h1
  exact h1
theorem tB_zero {b : Nat} (hb : b < 4294967296) (h : ∀ k, k < 4 → tB b k = 0) : b = 0 := by
  have e : ∀ k, k < 4 → b / 2 ^ (8 * k) % 256 = 0 := fun k hk => by
    have := congrArg UInt8.toNat (h k hk)
    unfold tB at this
    simpa using this
  have h0 := e 0 (by omega)
  have h1 := e 1 (by omega)
  have h2 := e 2 (by omega)
  have h3 := e 3 (by omega)
  simp at h0 h1 h2 h3
  omega
theorem four_of {l : List UInt8} {a : Nat} (h : a + 4 ≤ l.length) : ∃ u v x0 x1 x2 x3, l = u ++ ([x0, x1, x2, x3] ++ v) ∧ u.length = a := by
  obtain ⟨x0, x1, x2, x3, e⟩ := Crc.list4 (l := (l.drop a).take 4) (by rw [List.length_take, List.length_drop]; omega)
  refine ⟨l.take a, (l.drop a).drop 4, x0, x1, x2, x3, ?_, by rw [List.length_take]; omega⟩
  rw [← e, List.take_append_drop, List.take_append_drop]
theorem decS_turn {lo hi : Int} {O : List (List Int)} (f : Fits lo hi O) {a b : Nat} (ha : a + 4 ≤ (Crc.sealL (bodyL lo hi O)).length) (hb : b < 4294967296) : decS (bytesB (turnK (Crc.sealL (bodyL lo hi O)) a b 4)) = if b = 0 then (lo, hi, O, 0) else (0, 0, [], 10) := by
  obtain ⟨u, v, x0, x1, x2, x3, e, hu⟩ := four_of ha
  rw [e, ← hu, turn_four]
  by_cases h : b = 0
  · subst h
    rw [if_pos rfl]
    have z : ∀ k, tB 0 k = 0 := fun k => by unfold tB; simp
    rw [z, z, z, z, UInt8.xor_zero, UInt8.xor_zero, UInt8.xor_zero, UInt8.xor_zero, ← e]
    exact decS_enc f
  · rw [if_neg h]
    refine decS_turned f (x := [x0, x1, x2, x3]) rfl rfl e fun he => h ?_
    simp only [List.cons.injEq, and_true] at he
    obtain ⟨e0, e1, e2, e3⟩ := he
    refine tB_zero hb fun k hk => ?_
    match k, hk with
    | 0, _ => exact xor_u8_self e0.symm
    | 1, _ => exact xor_u8_self e1.symm
    | 2, _ => exact xor_u8_self e2.symm
    | 3, _ => exact xor_u8_self e3.symm
/-- A text's bytes in new memory. -/
theorem bytes_of (w : World) (y : List UInt8) : ∃ W1 c C, (convert 9 52 (.string (bytesB y))).run Try.prog w = .ok (.slice (some ⟨w.heap.size, 0, none⟩) y.length c) W1 ∧ W1.heap[w.heap.size]? = some (.cells C 5 (C.size, C.size + 1)) ∧
    Below w.heap.size w W1 ∧ (∀ (j : Nat) (z : UInt8), y[j]? = some z → C[j]? = some (Value.int .u8 (z.toNat : Int))) := by
  have hs : (bytesB y).size = y.length := bytesB_size y
  refine ⟨_, _, _, (by rw [← hs]; exact Lib.run_convert_string_bytes (P := Try.prog) w 9 52 5 (bytesB y) Try.underlying9 Try.underlying52 Try.underlying5), Lib.bytesWorld_at_new w 5 (bytesB y), ?_, fun j z hz => ?_⟩
  · exact ⟨rfl, rfl, rfl, by rw [Lib.bytesWorld_size]; omega, fun k hk => Lib.bytesWorld_at_old w 5 (bytesB y) k hk⟩
  · have hj := (List.getElem?_eq_some_iff.1 hz).1
    have := Lib.bytesWorld_cell w 5 (bytesB y) j (by omega)
    simp only [World.cell?, Lib.bytesWorld_at_new] at this
    simp at this
    rw [this]
    rw [hz]
    rfl
/-- .. and back. -/
theorem text_of {w : World} {g c n : Nat} {C : Array Value} {fz : Nat × Nat} {y : List UInt8} (hn : y.length = n) (h : w.heap[g]? = some (.cells C 5 fz)) (hC : ∀ (j : Nat) (z : UInt8), y[j]? = some z → C[j]? = some (Value.int .u8 (z.toNat : Int))) :
    (convert 52 9 (.slice (some ⟨g, 0, none⟩) n c)).run Try.prog w = .ok (.string (bytesB y)) w := by
  subst hn
  refine run_convert_bytes_back (P := Try.prog) w 52 9 5 ⟨g, 0, none⟩ c y Try.underlying52 Try.underlying5 Try.underlying9 (fun k hk => ?_)
  have e : (⟨g, 0, none⟩ : Addr).add k = ⟨g, k, none⟩ := by unfold Addr.add; split <;> simp_all
  rw [e]
  simp only [World.cell?, h]
  rw [hC k _ (List.getElem?_eq_getElem hk)]
  rfl
theorem bits_xor_u8 (z u : UInt8) : bits .xor .u8 (z.toNat : Int) (u.toNat : Int) = ((z ^^^ u).toNat : Int) := by
  have hz := z.toNat_lt
  have hu := u.toNat_lt
  have hx : z.toNat ^^^ u.toNat < 2 ^ 8 := Nat.xor_lt_two_pow (by omega) (by omega)
  rw [UInt8.toNat_xor]
  show IntKind.u8.wrap ((BitVec.ofInt 8 (z.toNat : Int) ^^^ BitVec.ofInt 8 (u.toNat : Int)).toNat : Int) = _
  have h1 : (BitVec.ofInt 8 (z.toNat : Int)).toNat = z.toNat := by
    rw [BitVec.ofInt_natCast, BitVec.toNat_ofNat]; exact Nat.mod_eq_of_lt (by omega)
  have h2 : (BitVec.ofInt 8 (u.toNat : Int)).toNat = u.toNat := by
    rw [BitVec.ofInt_natCast, BitVec.toNat_ofNat]; exact Nat.mod_eq_of_lt (by omega)
  rw [BitVec.toNat_xor, h1, h2]
  simp only [IntKind.wrap, IntKind.bits, IntKind.signed]
  simp
  omega
end Go.Proofs.Ytdlmkdldmiiaiaa.E
