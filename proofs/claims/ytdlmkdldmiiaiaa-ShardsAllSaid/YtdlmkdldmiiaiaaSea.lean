/- shards: sealed. Conditions: those that each theorem names. -/
import Derived.Test.YtdlmkdldmiiaiaaChk
import Derived.Test.YtdlmkdldmiiaiaaCrc
namespace Go.Proofs.Ytdlmkdldmiiaiaa.E
open Go.RowKit Go.Sort Go.Shelf
open Go.Proofs.Ytdlmkdldmiiaiaa.Ma Go.Proofs.Ytdlmkdldmiiaiaa.By Go.Proofs.Ytdlmkdldmiiaiaa.Enc
set_option linter.unusedVariables false
set_option linter.unusedSimpArgs false
/-- Bytes that a list of bytes is. -/
abbrev bytesB (l : List UInt8) : ByteArray := ⟨l.toArray⟩
def sealB (s : ByteArray) : ByteArray := bytesB (Crc.sealL s.data.toList)
theorem moreN_sum (l : List UInt8) : Crc.le4 (moreN 0 l) = Crc.sum4 l := rfl
theorem moreN_lt0 (l : List UInt8) : moreN 0 l < 4294967296 := moreN_lt l (by omega)
theorem text_four (w : World) (b : Nat) (a b' c d : UInt8) (h : w.heap[b]? = some (.cells #[.int .u8 (a.toNat : Int), .int .u8 (b'.toNat : Int), .int .u8 (c.toNat : Int), .int .u8 (d.toNat : Int)] 5 (0, 0))) :
    (convert 52 9 (.slice (some ⟨b, 0, none⟩) 4 4)).run Try.prog w = .ok (.string (bytesB [a, b', c, d])) w := by
  refine run_convert_bytes_back (P := Try.prog) w 52 9 5 ⟨b, 0, none⟩ 4 [a, b', c, d] Try.underlying52 Try.underlying5 Try.underlying9 (fun k hk => ?_)
  have e2 : (⟨b, 0, none⟩ : Addr).add k = ⟨b, 0 + k, none⟩ := by
    unfold Addr.add
    split
    · rename_i e; subst e; rfl
    · rfl
  rw [e2, Nat.zero_add]
  refine cell_of_heap h ?_
  simp only [List.length_cons, List.length_nil] at hk
  match k, hk with
  | 0, _ => rfl
  | 1, _ => rfl
  | 2, _ => rfl
  | 3, _ => rfl
set_option maxRecDepth 100000 in
theorem sealed_at (s : ByteArray) (w : World) (hs : s.size ≤ 10000000) :
    Calls Try.prog 39 #[.string s] w fun e w' => e = .returned (.string (sealB s)) ∧ Below w.heap.size w w' := by
  have H := Lib.hid (sum_at s w hs)
  have hlt := moreN_lt0 s.data.toList
  have HF := Lib.hid (show sealB s = s ++ bytesB (Crc.le4 (moreN 0 s.data.toList)) by
    rw [moreN_sum]
    unfold sealB Crc.sealL
    apply ByteArray.ext
    rw [ByteArray.data_append]
    simp)
  obtain ⟨n, hn⟩ : ∃ n, moreN 0 s.data.toList = n := ⟨_, rfl⟩
  rw [hn] at H hlt HF
  obtain ⟨T, hT⟩ : ∃ T, bytesB (Crc.le4 n) = T := ⟨_, rfl⟩
  rw [hT] at HF
  have hsz : ¬ 9223372036854775807 < s.size + T.size := by
    have : T.size = 4 := by rw [← hT]; rfl
    omega
  have htx : (convert 52 9 (.slice (some ⟨w.heap.size, 0, none⟩) 4 4)).run Try.prog (w.alloc (.cells #[.int .u8 ((n : Int) % 256), .int .u8 ((n : Int) / 256 % 256), .int .u8 ((n : Int) / 65536 % 256), .int .u8 ((n : Int) / 16777216)] 5)) = .ok (.string T) (w.alloc (.cells #[.int .u8 ((n : Int) % 256), .int .u8 ((n : Int) / 256 % 256), .int .u8 ((n : Int) / 65536 % 256), .int .u8 ((n : Int) / 16777216)] 5)) := by
    subst hT
    refine text_four _ _ (UInt8.ofNat n) (UInt8.ofNat (n / 256)) (UInt8.ofNat (n / 65536)) (UInt8.ofNat (n / 16777216)) ?_
    simp only [UInt8.toNat_ofNat']
    have e1 : (n : Int) % 256 = ((n % 2 ^ 8 : Nat) : Int) := by omega
    have e2 : (n : Int) / 256 % 256 = ((n / 256 % 2 ^ 8 : Nat) : Int) := by omega
    have e3 : (n : Int) / 65536 % 256 = ((n / 65536 % 2 ^ 8 : Nat) : Int) := by omega
    have e4 : (n : Int) / 16777216 = ((n / 16777216 % 2 ^ 8 : Nat) : Int) := by omega
    rw [e1, e2, e3, e4]
    exact heap_alloc_new w _
  have HB := Lib.hid (show Below w.heap.size w (w.alloc (.cells #[.int .u8 ((n : Int) % 256), .int .u8 ((n : Int) / 256 % 256), .int .u8 ((n : Int) / 65536 % 256), .int .u8 ((n : Int) / 16777216)] 5)) from (Below.refl _ _).alloc (Nat.le_refl _) _)
  obtain ⟨S, hS⟩ : ∃ S, sealB s = S := ⟨_, rfl⟩
  rw [hS] at HF ⊢
  clear hn hS hs hT
  go_enter Try.func39, Try.ntmps39
  go_upto_region 2 with (go_at_call 70; refine H.out.mono ?_; rintro e w2 ⟨rfl, rfl⟩)
  go_wp2
  go_ret
  exact ⟨by rw [HF.out]; rfl, HB.out⟩
end Go.Proofs.Ytdlmkdldmiiaiaa.E
