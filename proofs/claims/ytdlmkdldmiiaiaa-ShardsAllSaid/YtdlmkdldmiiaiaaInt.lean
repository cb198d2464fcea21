/- ints: the bytes of a number, and the number at a place. Conditions: those that each theorem names. -/
import Derived.Test.YtdlmkdldmiiaiaaRow
namespace Go.Proofs.Ytdlmkdldmiiaiaa.E
open Go.RowKit Go.Sort Go.Shelf
open Go.Proofs.Ytdlmkdldmiiaiaa.Ma Go.Proofs.Ytdlmkdldmiiaiaa.By
set_option linter.unusedVariables false
set_option linter.unusedSimpArgs false
theorem last_byte {u : Nat} (h : u < 128) : IntKind.u8.wrap (u : Int) = ((UInt8.ofNat u).toNat : Int) := by
  rw [u8_toNat (by omega), IntKind.wrap_u8]
  omega
theorem next_byte (u : Nat) : bits .or .u8 (IntKind.u8.wrap (u : Int)) 128 = ((UInt8.ofNat (u % 128 + 128)).toNat : Int) := by
  rw [u8_toNat (by omega), ← or_128]
  rfl
set_option maxRecDepth 100000 in
set_option maxHeartbeats 4000000 in
theorem put_at (u : Nat) (w : World) (hu : u < 18446744073709551616) :
    Calls Try.prog 71 #[.int .u64 (u : Int)] w fun e w' => e = .returned (.string (encB u)) ∧ Below w.heap.size w w' := by
  have HU := Lib.hid hu
  have HB9 := Lib.hid p128
  clear hu
  go_enter Try.func71, Try.ntmps71
  go_wp2
  go_loopw [0, 3, 4] (fun x b i wi => ∃ (v k : Nat) (acc : List UInt8), x = .int .u64 (v : Int) ∧ i = .int .i64 (k : Int) ∧ k ≤ 10 ∧ acc.length = k ∧ acc ++ enc v = enc u ∧ v < 128 ^ (10 - k) ∧ wi.ownsRow w.heap.size 5 1 b acc.length (cellsK encY acc) ∧ Below w.heap.size w wi) (fun _ _ i _ => 10 - (intOf i).toNat)
  case atStart => exact ⟨u, 0, [], rfl, rfl, by omega, rfl, rfl, by have := HU.out; have := HB9.out; omega, World.ownsRow_nil _ _ _ _, Below.refl _ _⟩
  case round =>
    obtain ⟨v, k, acc, rfl, rfl, hk, ha, he, hv, hr, hb⟩ := hrel
    have HR := Lib.hid hr
    have HB := Lib.hid hb
    have HA := Lib.hid ha
    have HE := Lib.hid he
    have HAl := Lib.hid (show acc.length ≤ 1000000 by omega)
    by_cases h128 : v < 128
    · have HLB := Lib.hid (show (v : Int) = ((UInt8.ofNat v).toNat : Int) by rw [u8_toNat (by omega)])
      obtain ⟨R, hR⟩ : ∃ R, acc ++ [UInt8.ofNat v] = R := ⟨_, rfl⟩
      have HRR := Lib.hid hR
      have HS := Lib.hid (show (⟨R.toArray⟩ : ByteArray) = encB u by unfold encB; rw [← HE.out, enc_small h128, hR])
      have i1 : (v : Int) < 128 := by omega
      by_cases hlt : k < 10
      · have i2 : (k : Int) < 10 := by omega
        clear hr hb ha he hv hk hlt h128 hR
        go_wp2_with (at_builtin; refine wp_appY rfl _ _ rfl w.heap.size acc (UInt8.ofNat v) R HRR.out _ rfl (HR.out.alloc _) wr.heap.size _ HLB.out rfl (heap_alloc_new wr _) HAl.out (Nat.le_trans HB.out.size (by simp)) ?_; intro A2 c2 w2 hr2 hf2 _; have HB2 := Lib.hid ((HB.out.alloc HB.out.size (.cells #[.int .u8 (v : Int)] 5)).trans (hf2.below (Nat.le_trans HB.out.size (by simp)) (fun i e => (HR.out.lt i e).1))); have htx := text_row rfl hr2; rw [HS.out] at htx; clear hr2 hf2)
        go_ret
        exact ⟨rfl, HB2.out⟩
      · obtain rfl : k = 10 := by omega
        clear hr hb ha he hv hk hlt h128 hR
        go_wp2_with (at_builtin; refine wp_appY rfl _ _ rfl w.heap.size acc (UInt8.ofNat v) R HRR.out _ rfl (HR.out.alloc _) wr.heap.size _ HLB.out rfl (heap_alloc_new wr _) HAl.out (Nat.le_trans HB.out.size (by simp)) ?_; intro A2 c2 w2 hr2 hf2 _; have HB2 := Lib.hid ((HB.out.alloc HB.out.size (.cells #[.int .u8 (v : Int)] 5)).trans (hf2.below (Nat.le_trans HB.out.size (by simp)) (fun i e => (HR.out.lt i e).1))); have htx := text_row rfl hr2; rw [HS.out] at htx; clear hr2 hf2)
        go_ret
        exact ⟨rfl, HB2.out⟩
    · have hlt : k < 10 := by
        rcases Nat.lt_or_ge k 10 with h | h
        · exact h
        · obtain rfl : k = 10 := by omega
          simp at hv
          omega
      have HNB := Lib.hid (next_byte v)
      obtain ⟨R, hR⟩ : ∃ R, acc ++ [UInt8.ofNat (v % 128 + 128)] = R := ⟨_, rfl⟩
      have HRR := Lib.hid hR
      have HRl := Lib.hid (show R.length = k + 1 by rw [← hR, List.length_append, ha]; rfl)
      have i1 : ¬ (v : Int) < 128 := by omega
      have i2 : (k : Int) < 10 := by omega
      have HK := Lib.hid hlt
      have HV := Lib.hid (show v / 128 < 128 ^ (10 - (k + 1)) by
        have e : 128 ^ (10 - k) = 128 ^ (10 - (k + 1)) * 128 := by rw [← Nat.pow_succ]; congr 1; omega
        rw [e] at hv
        exact Nat.div_lt_of_lt_mul (by rw [Nat.mul_comm]; exact hv))
      have HE2 := Lib.hid (show R ++ enc (v / 128) = enc u by rw [← hR, ← HE.out, enc_big (u := v) (by omega)]; simp)
      clear hr hb ha he hv hk hlt h128 hR
      go_wp2_with (at_builtin; refine wp_appY rfl _ _ rfl w.heap.size acc (UInt8.ofNat (v % 128 + 128)) R HRR.out _ rfl (HR.out.alloc _) wr.heap.size _ HNB.out rfl (heap_alloc_new wr _) HAl.out (Nat.le_trans HB.out.size (by simp)) ?_; intro A2 c2 w2 hr2 hf2 _; have HB2 := Lib.hid ((HB.out.alloc HB.out.size (.cells #[.int .u8 (bits .or .u8 (IntKind.u8.wrap (v : Int)) 128)] 5)).trans (hf2.below (Nat.le_trans HB.out.size (by simp)) (fun i e => (HR.out.lt i e).1))); have HR2 := Lib.hid hr2; clear hr2 hf2)
      go_roundw
      case rel => exact ⟨v / 128, k + 1, R, by go_num, by go_num, HK.out, HRl.out, HE2.out, HV.out, HR2.out, HB2.out⟩
      case measure => have := HK.out; simp [intOf]; omega
theorem putx_at (n : Int) (w : World) (h0 : -9223372036854775808 ≤ n) (h1 : n ≤ 9223372036854775807) :
    Calls Try.prog 40 #[.int .i64 n] w fun e w' => e = .returned (.string (putC n)) ∧ Below w.heap.size w w' := by
  by_cases hn : n < 0
  · have e1 : putC n = ⟨#[]⟩ := by unfold putC; rw [if_pos hn]
    rw [e1]
    go_enter Try.func40, Try.ntmps40
    go_wp2
    go_ret
    exact ⟨rfl, Below.refl _ _⟩
  · obtain ⟨u, rfl⟩ : ∃ u : Nat, n = (u : Int) := ⟨n.toNat, by omega⟩
    have e1 : putC (u : Int) = encB u := by unfold putC; rw [if_neg hn, Int.toNat_natCast]
    rw [e1]
    have HP := Lib.hid (put_at u w (by omega))
    have e2 : IntKind.u64.wrap (u : Int) = (u : Int) := IntWalk.u64_in _ ⟨by omega, by omega⟩
    clear h0 h1
    go_enter Try.func40, Try.ntmps40
    go_wp2_with (go_at_call 71; refine HP.out.mono ?_; rintro e w2 ⟨rfl, hb2⟩; have HB2 := Lib.hid hb2; clear hb2)
    go_ret
    exact ⟨rfl, HB2.out⟩
end Go.Proofs.Ytdlmkdldmiiaiaa.E
