/- Done. Conditions: those that the theorem names. -/
import Derived.Test.YtnpdnnaemfdinaaAct
namespace Go.Proofs.Ytnpdnnaemfdinaa.F
open Go.RowKit Go.Maps Go.Sort Go.Shelf
open Go.Proofs.Ytnpdnnaemfdinaa.Ma
set_option linter.unusedVariables false
set_option linter.unusedSimpArgs false
/-- What an act answers (a text, an error), how many reads are left then, and the files. -/
def doneF (room left : Int) (D : List De) (a : Ac) : ByteArray × Int × Int × List De :=
  if a.kind % 9 < 2 then (⟨#[]⟩, (writeF room D a.name a.ps).1, left, (writeF room D a.name a.ps).2)
  else if a.kind % 9 < 4 then (⟨#[]⟩, (putF room D a.name a.i (firstL a.ps)).1, left, (putF room D a.name a.i (firstL a.ps)).2)
  else if a.kind % 9 = 6 then (⟨#[]⟩, (removeF D a.name).1, left, (removeF D a.name).2)
  else if a.kind % 9 = 7 then (⟨#[]⟩, (failF left a.i).1, (failF left a.i).2, D)
  else if a.kind % 9 = 8 then (⟨#[]⟩, (flipF D a.name a.i a.at_ a.x).1, left, (flipF D a.name a.i a.at_ a.x).2)
  else ((readD left D a.name a.i).1, (readD left D a.name a.i).2.1, (readD left D a.name a.i).2.2, D)
/-- A box of the call's own is kept away. -/
theorem back {X : Nat → Prop} {w W w' : World} {b bm : Nat} {room left : Int} {D : List De} {n : Nat} (hb : Below w.heap.size w W) (h : FsX (fun k => X k ∨ (w.heap.size ≤ k ∧ k < n)) w' b bm room left D) (hf : Fr (fun k => ¬ (X k ∨ (w.heap.size ≤ k ∧ k < n))) W w') :
    FsX X w' b bm room left D ∧ Fr (fun k => ¬ X k) w w' :=
  ⟨h.narrow (fun k hk => .inl hk), ((Fr.of_below hb).mono (fun _ e => e.elim)).trans (hf.mono (fun k hk hx => hk (.inl hx)))⟩
theorem keep3 {X : Nat → Prop} {w W w' : World} {s : ByteArray} {v : Value} {i : Int} {n : Nat} (hf : Fr (fun k => ¬ (X k ∨ (w.heap.size ≤ k ∧ k < n))) (W.drewN 1) w') (hs : w.heap.size < W.heap.size) (hn : w.heap.size < n)
    (g1 : W.cell? ⟨w.heap.size, 1, none⟩ = some (.string s)) (g2 : W.cell? ⟨w.heap.size, 2, none⟩ = some v) (g3 : W.cell? ⟨w.heap.size, 3, none⟩ = some (.int .i64 i)) :
    w'.cell? ⟨w.heap.size, 1, none⟩ = some (.string s) ∧ w'.cell? ⟨w.heap.size, 2, none⟩ = some v ∧ w'.cell? ⟨w.heap.size, 3, none⟩ = some (.int .i64 i) := by
  have hx : ¬ ¬ (X w.heap.size ∨ (w.heap.size ≤ w.heap.size ∧ w.heap.size < n)) := fun e => e (.inr ⟨Nat.le_refl _, hn⟩)
  exact ⟨hf.cell g1 hs hx, hf.cell g2 hs hx, hf.cell g3 hs hx⟩
set_option maxRecDepth 100000 in
set_option maxHeartbeats 4000000 in
theorem done_at {X : Nat → Prop} {w : World} {b bm : Nat} {room left : Int} {D : List De} (a : Ac) (ha : AcAt w a) (hl : a.ps.length ≤ 1000000) (h : FsX X w b bm room left D) :
    Calls Try.prog 21 #[.pointer (some ⟨b, 0, none⟩), .agg #[.int .u8 (a.kind : Int), .string a.name, .slice a.adr a.ps.length a.cap, .int .i64 a.i, .int .i64 a.at_, .int .u8 (a.x.toNat : Int)]] w fun e w' => e = .returned (.tuple #[.string (doneF room left D a).1, .int .i64 (doneF room left D a).2.1]) ∧ FsX X w' b bm room (doneF room left D a).2.2.1 (doneF room left D a).2.2.2 ∧ Fr (fun k => ¬ X k) w w' := by
  obtain ⟨k, s, A, c, P, i, t, x⟩ := a
  obtain ⟨hk, hs, hi, hP, hP2⟩ := ha
  dsimp only at hk hs hi hP hP2 hl ⊢
  unfold doneF
  dsimp only
  obtain ⟨W, hW, gW, hbl, hsz⟩ := box_new w (.cells #[.int .u8 (k : Int), .string s, .slice A P.length c, .int .i64 i, .int .i64 t, .int .u8 (x.toNat : Int)] 43 (0, 0))
  have HX := Lib.hid (h.widen hbl)
  have g0 := cell_of_heap (i := 0) gW rfl
  have g1 := cell_of_heap (i := 1) gW rfl
  have g2 := cell_of_heap (i := 2) gW rfl
  have g3 := cell_of_heap (i := 3) gW rfl
  have g4 := cell_of_heap (i := 4) gW rfl
  have g5 := cell_of_heap (i := 5) gW rfl
  have HB := Lib.hid hbl
  have HZ := Lib.hid (show w.heap.size < W.heap.size by omega)
  have HS := Lib.hid hs
  have HI := Lib.hid hi
  have HP := Lib.hid (hP.below hbl (Nat.le_refl _))
  have HL := Lib.hid hl
  obtain ⟨m, hm⟩ : ∃ m, k % 9 = m := ⟨_, rfl⟩
  have hm9 : m < 9 := by omega
  have e9 : (k : Int).tmod 9 = (m : Int) := by rw [Int.tmod_eq_emod_of_nonneg (by omega)]; omega
  rw [hm]
  clear h hs hi hP hl hP2 gW hbl hsz hm hk
  have w9 : IntKind.u8.wrap (m : Int) = (m : Int) := by
    simp only [IntKind.wrap, IntKind.bits, IntKind.signed]
    simp
    omega
  rcases (show m = 0 ∨ m = 1 ∨ m = 2 ∨ m = 3 ∨ m = 4 ∨ m = 5 ∨ m = 6 ∨ m = 7 ∨ m = 8 by omega) with rfl | rfl | rfl | rfl | rfl | rfl | rfl | rfl | rfl
  · rw [if_pos (by decide)]
    have HC := Lib.hid (x_write s HS.out A c P HP.out HL.out HX.out)
    generalize writeF room D s P = r at HC ⊢
    generalize P.length = n at g2 HC hW ⊢
    go_enter Try.func21, Try.ntmps21
    go_wp2_with (go_at_call 11; refine HC.out.mono ?_; rintro e w2 ⟨rfl, h2, hf2⟩; have H2 := Lib.hid (back HB.out h2 hf2); clear h2 hf2)
    exact bodyPost_ret (v := .tuple #[.string ⟨#[]⟩, .int .i64 r.1]) (by simp [results, Try.results21, go_sem]) rfl ⟨rfl, H2.out⟩
  · rw [if_pos (by decide)]
    have HC := Lib.hid (x_write s HS.out A c P HP.out HL.out HX.out)
    generalize writeF room D s P = r at HC ⊢
    generalize P.length = n at g2 HC hW ⊢
    go_enter Try.func21, Try.ntmps21
    go_wp2_with (go_at_call 11; refine HC.out.mono ?_; rintro e w2 ⟨rfl, h2, hf2⟩; have H2 := Lib.hid (back HB.out h2 hf2); clear h2 hf2)
    exact bodyPost_ret (v := .tuple #[.string ⟨#[]⟩, .int .i64 r.1]) (by simp [results, Try.results21, go_sem]) rfl ⟨rfl, H2.out⟩
  · rw [if_neg (by decide), if_pos (by decide)]
    have HC := Lib.hid (fun (W1 : World) (h1 : FsX (fun k => X k ∨ (w.heap.size ≤ k ∧ k < W.heap.size)) W1 b bm room left D) => x_put s HS.out i (firstL P) h1)
    have HF := Lib.hid (fun (W1 : World) (h1 : Lies encS 1 W1 A P) => first_at A c P W1 h1)
    generalize putF room D s i (firstL P) = r at HC ⊢
    obtain ⟨y, hy⟩ : ∃ y, firstL P = y := ⟨_, rfl⟩
    rw [hy] at HC HF
    obtain ⟨n, hn⟩ : ∃ n, P.length = n := ⟨_, rfl⟩
    rw [hn] at g2 hW HF ⊢
    clear hn hy
    go_enter Try.func21, Try.ntmps21
    go_wp2
    go_region_held3 (fun wx => wx.cell? ⟨w.heap.size, 1, none⟩ = some (.string s) ∧ wx.cell? ⟨w.heap.size, 2, none⟩ = some (.slice A n c) ∧ wx.cell? ⟨w.heap.size, 3, none⟩ = some (.int .i64 i))
      (first | exact ⟨g1, g2, g3⟩ | exact S2.out)
      ((first
        | (go_at_call 17; refine (HC.out _ (HX.out.drewN 1)).mono ?_; rintro e w2 ⟨rfl, h2, hf2⟩; have H2 := Lib.hid (back HB.out h2 (Fr.trans (Fr.drewN _ W 1) hf2)); have S2 := Lib.hid (keep3 hf2 HZ.out HZ.out g1 g2 g3); clear h2 hf2)
        | (go_at_call 46; refine (HF.out _ (HP.out.drewN 1)).mono ?_; rintro e w1 ⟨rfl, rfl⟩)))
    all_goals
      go_wp2
      exact bodyPost_ret (v := .tuple #[.string ⟨#[]⟩, .int .i64 r.1]) (by simp [results, Try.results21, go_sem]) rfl ⟨rfl, H2.out⟩
  · rw [if_neg (by decide), if_pos (by decide)]
    have HC := Lib.hid (fun (W1 : World) (h1 : FsX (fun k => X k ∨ (w.heap.size ≤ k ∧ k < W.heap.size)) W1 b bm room left D) => x_put s HS.out i (firstL P) h1)
    have HF := Lib.hid (fun (W1 : World) (h1 : Lies encS 1 W1 A P) => first_at A c P W1 h1)
    generalize putF room D s i (firstL P) = r at HC ⊢
    obtain ⟨y, hy⟩ : ∃ y, firstL P = y := ⟨_, rfl⟩
    rw [hy] at HC HF
    obtain ⟨n, hn⟩ : ∃ n, P.length = n := ⟨_, rfl⟩
    rw [hn] at g2 hW HF ⊢
    clear hn hy
    go_enter Try.func21, Try.ntmps21
    go_wp2
    go_region_held3 (fun wx => wx.cell? ⟨w.heap.size, 1, none⟩ = some (.string s) ∧ wx.cell? ⟨w.heap.size, 2, none⟩ = some (.slice A n c) ∧ wx.cell? ⟨w.heap.size, 3, none⟩ = some (.int .i64 i))
      (first | exact ⟨g1, g2, g3⟩ | exact S2.out)
      ((first
        | (go_at_call 17; refine (HC.out _ (HX.out.drewN 1)).mono ?_; rintro e w2 ⟨rfl, h2, hf2⟩; have H2 := Lib.hid (back HB.out h2 (Fr.trans (Fr.drewN _ W 1) hf2)); have S2 := Lib.hid (keep3 hf2 HZ.out HZ.out g1 g2 g3); clear h2 hf2)
        | (go_at_call 46; refine (HF.out _ (HP.out.drewN 1)).mono ?_; rintro e w1 ⟨rfl, rfl⟩)))
    all_goals
      go_wp2
      exact bodyPost_ret (v := .tuple #[.string ⟨#[]⟩, .int .i64 r.1]) (by simp [results, Try.results21, go_sem]) rfl ⟨rfl, H2.out⟩
  · rw [if_neg (by decide), if_neg (by decide), if_neg (by decide), if_neg (by decide), if_neg (by decide)]
    have HC := Lib.hid (x_read s i HS.out HX.out)
    generalize readD left D s i = r at HC ⊢
    generalize P.length = n at g2 hW ⊢
    go_enter Try.func21, Try.ntmps21
    go_wp2_with (go_at_call 14; refine HC.out.mono ?_; rintro e w2 ⟨rfl, h2, hf2⟩; have H2 := Lib.hid (back HB.out h2 hf2); clear h2 hf2)
    exact bodyPost_ret (v := .tuple #[.string r.1, .int .i64 r.2.1]) (by simp [results, Try.results21, go_sem]) rfl ⟨rfl, H2.out⟩
  · rw [if_neg (by decide), if_neg (by decide), if_neg (by decide), if_neg (by decide), if_neg (by decide)]
    have HC := Lib.hid (x_read s i HS.out HX.out)
    generalize readD left D s i = r at HC ⊢
    generalize P.length = n at g2 hW ⊢
    go_enter Try.func21, Try.ntmps21
    go_wp2_with (go_at_call 14; refine HC.out.mono ?_; rintro e w2 ⟨rfl, h2, hf2⟩; have H2 := Lib.hid (back HB.out h2 hf2); clear h2 hf2)
    exact bodyPost_ret (v := .tuple #[.string r.1, .int .i64 r.2.1]) (by simp [results, Try.results21, go_sem]) rfl ⟨rfl, H2.out⟩
  · rw [if_neg (by decide), if_neg (by decide), if_pos (by decide)]
    have HC := Lib.hid (x_remove s HS.out HX.out)
    generalize removeF D s = r at HC ⊢
    generalize P.length = n at g2 hW ⊢
    go_enter Try.func21, Try.ntmps21
    go_wp2_with (go_at_call 34; refine HC.out.mono ?_; rintro e w2 ⟨rfl, h2, hf2⟩; have H2 := Lib.hid (back HB.out h2 hf2); clear h2 hf2)
    exact bodyPost_ret (v := .tuple #[.string ⟨#[]⟩, .int .i64 r.1]) (by simp [results, Try.results21, go_sem]) rfl ⟨rfl, H2.out⟩
  · rw [if_neg (by decide), if_neg (by decide), if_neg (by decide), if_pos (by decide)]
    have HC := Lib.hid (x_fail i HI.out HX.out)
    generalize failF left i = r at HC ⊢
    generalize P.length = n at g2 hW ⊢
    go_enter Try.func21, Try.ntmps21
    go_wp2_with (go_at_call 13; refine HC.out.mono ?_; rintro e w2 ⟨rfl, h2, hf2⟩; have H2 := Lib.hid (back HB.out h2 hf2); clear h2 hf2)
    exact bodyPost_ret (v := .tuple #[.string ⟨#[]⟩, .int .i64 r.1]) (by simp [results, Try.results21, go_sem]) rfl ⟨rfl, H2.out⟩
  · rw [if_neg (by decide), if_neg (by decide), if_neg (by decide), if_neg (by decide), if_pos (by decide)]
    have HC := Lib.hid (x_flip s HS.out i t x HX.out)
    generalize flipF D s i t x = r at HC ⊢
    generalize P.length = n at g2 hW ⊢
    go_enter Try.func21, Try.ntmps21
    go_wp2_with (go_at_call 35; refine HC.out.mono ?_; rintro e w2 ⟨rfl, h2, hf2⟩; have H2 := Lib.hid (back HB.out h2 hf2); clear h2 hf2)
    exact bodyPost_ret (v := .tuple #[.string ⟨#[]⟩, .int .i64 r.1]) (by simp [results, Try.results21, go_sem]) rfl ⟨rfl, H2.out⟩
end Go.Proofs.Ytnpdnnaemfdinaa.F
