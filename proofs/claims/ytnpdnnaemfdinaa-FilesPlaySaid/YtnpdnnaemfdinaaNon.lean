/- A file system that is none. Conditions: those that each theorem names. -/
import Derived.Test.YtnpdnnaemfdinaaDon
namespace Go.Proofs.Ytnpdnnaemfdinaa.F
open Go.RowKit Go.Maps Go.Sort Go.Shelf
open Go.Proofs.Ytnpdnnaemfdinaa.Ma
set_option linter.unusedVariables false
set_option linter.unusedSimpArgs false
def NoneAt (w : World) (p : Option Addr) : Prop := p = none ∨ ∃ b, p = some ⟨b, 0, none⟩ ∧ b < w.heap.size ∧ w.cell? ⟨b, 2, none⟩ = some (.map none)
theorem NoneAt.below {w w' : World} {p : Option Addr} (h : NoneAt w p) (hb : Below w.heap.size w w') : NoneAt w' p := by
  rcases h with h | ⟨b, h1, h2, h3⟩
  · exact .inl h
  · exact .inr ⟨b, h1, Nat.lt_of_lt_of_le h2 hb.size, (hb.cell (p := ⟨b, 2, none⟩) h2).trans h3⟩
section
variable {w : World} {p : Option Addr}
theorem n_none (h : NoneAt w p) : Calls Try.prog 36 #[.pointer p] w fun e w' => e = .returned (.bool true) ∧ w = w' := by
  rcases h with rfl | ⟨b, rfl, _, h3⟩
  · exact none_nil w
  · exact none_empty b w h3
theorem n_there (h : NoneAt w p) (s : ByteArray) (i : Int) : Calls Try.prog 43 #[.pointer p, .string s, .int .i64 i] w fun e w' => e = .returned (.int .i64 1) ∧ w = w' := by
  have H := Lib.hid (n_none h)
  clear h
  go_enter Try.func43, Try.ntmps43
  go_wp2_with (go_at_call 36; refine H.out.mono ?_; rintro e w' ⟨rfl, rfl⟩)
  go_ret
  exact ⟨rfl, rfl⟩
theorem n_write (h : NoneAt w p) (s : ByteArray) (A : Option Addr) (n c : Nat) : Calls Try.prog 11 #[.pointer p, .string s, .slice A n c] w fun e w' => e = .returned (.int .i64 1) ∧ w = w' := by
  have H := Lib.hid (n_none h)
  clear h
  go_enter Try.func11, Try.ntmps11
  go_wp2_with (go_at_call 36; refine H.out.mono ?_; rintro e w' ⟨rfl, rfl⟩)
  go_ret
  exact ⟨rfl, rfl⟩
theorem n_put (h : NoneAt w p) (s : ByteArray) (i : Int) (x : ByteArray) : Calls Try.prog 17 #[.pointer p, .string s, .int .i64 i, .string x] w fun e w' => e = .returned (.int .i64 1) ∧ w = w' := by
  have H := Lib.hid (n_none h)
  clear h
  go_enter Try.func17, Try.ntmps17
  go_wp2_with (go_at_call 36; refine H.out.mono ?_; rintro e w' ⟨rfl, rfl⟩)
  go_ret
  exact ⟨rfl, rfl⟩
theorem n_fail (h : NoneAt w p) (i : Int) : Calls Try.prog 13 #[.pointer p, .int .i64 i] w fun e w' => e = .returned (.int .i64 1) ∧ w = w' := by
  have H := Lib.hid (n_none h)
  clear h
  go_enter Try.func13, Try.ntmps13
  go_wp2_with (go_at_call 36; refine H.out.mono ?_; rintro e w' ⟨rfl, rfl⟩)
  go_ret
  exact ⟨rfl, rfl⟩
theorem n_read (h : NoneAt w p) (s : ByteArray) (i : Int) : Calls Try.prog 14 #[.pointer p, .string s, .int .i64 i] w fun e w' => e = .returned (.tuple #[.string ⟨#[]⟩, .int .i64 1]) ∧ w = w' := by
  have H := Lib.hid (n_there h s i)
  clear h
  go_enter Try.func14, Try.ntmps14
  go_wp2_with (go_at_call 43; refine H.out.mono ?_; rintro e w' ⟨rfl, rfl⟩)
  exact bodyPost_ret (v := .tuple #[.string ⟨#[]⟩, .int .i64 1]) (by simp [results, Try.results14, go_sem]) rfl ⟨rfl, rfl⟩
theorem n_remove (h : NoneAt w p) (s : ByteArray) : Calls Try.prog 34 #[.pointer p, .string s] w fun e w' => e = .returned (.int .i64 1) ∧ w = w' := by
  have H := Lib.hid (n_there h s 0)
  clear h
  go_enter Try.func34, Try.ntmps34
  go_wp2_with (go_at_call 43; refine H.out.mono ?_; rintro e w' ⟨rfl, rfl⟩)
  go_ret
  exact ⟨rfl, rfl⟩
theorem n_flip (h : NoneAt w p) (s : ByteArray) (i t x : Int) : Calls Try.prog 35 #[.pointer p, .string s, .int .i64 i, .int .i64 t, .int .u8 x] w fun e w' => e = .returned (.int .i64 1) ∧ w = w' := by
  have H := Lib.hid (n_there h s i)
  clear h
  go_enter Try.func35, Try.ntmps35
  go_wp2_with (go_at_call 43; refine H.out.mono ?_; rintro e w' ⟨rfl, rfl⟩)
  go_ret
  exact ⟨rfl, rfl⟩
theorem n_names (h : NoneAt w p) : Calls Try.prog 24 #[.pointer p] w fun e w' => e = .returned (.slice none 0 0) ∧ w = w' := by
  have H := Lib.hid (n_none h)
  clear h
  go_enter Try.func24, Try.ntmps24
  go_wp2_with (go_at_call 36; refine H.out.mono ?_; rintro e w' ⟨rfl, rfl⟩)
  go_ret
  exact ⟨rfl, rfl⟩
theorem n_pages (h : NoneAt w p) (s : ByteArray) : Calls Try.prog 26 #[.pointer p, .string s] w fun e w' => e = .returned (.int .i64 0) ∧ w = w' := by
  have H := Lib.hid (n_none h)
  clear h
  go_enter Try.func26, Try.ntmps26
  go_wp2_with (go_at_call 36; refine H.out.mono ?_; rintro e w' ⟨rfl, rfl⟩)
  go_ret
  exact ⟨rfl, rfl⟩
theorem n_used (h : NoneAt w p) : Calls Try.prog 18 #[.pointer p] w fun e w' => e = .returned (.int .i64 0) ∧ w = w' := by
  have H := Lib.hid (n_names h)
  clear h
  go_enter Try.func18, Try.ntmps18
  go_wp2_with (go_at_call 24; refine H.out.mono ?_; rintro e w' ⟨rfl, rfl⟩)
  go_loop [3, 9] (fun s i => s = .int .i64 0 ∧ i = .int .i64 0) (fun _ _ => 0)
  case atStart => exact ⟨rfl, rfl⟩
  case round =>
    obtain ⟨rfl, rfl⟩ := hrel
    go_wp2
    go_ret
    exact ⟨rfl, rfl⟩
end
theorem drewN_none {w : World} {p : Option Addr} (n : Nat) (h : NoneAt w p) : NoneAt (w.drewN n) p := h
set_option maxRecDepth 100000 in
set_option maxHeartbeats 4000000 in
theorem n_done {w : World} {p : Option Addr} (a : Ac) (ha : AcAt w a) (h : NoneAt w p) :
    Calls Try.prog 21 #[.pointer p, .agg #[.int .u8 (a.kind : Int), .string a.name, .slice a.adr a.ps.length a.cap, .int .i64 a.i, .int .i64 a.at_, .int .u8 (a.x.toNat : Int)]] w fun e w' => e = .returned (.tuple #[.string ⟨#[]⟩, .int .i64 1]) ∧ Below w.heap.size w w' := by
  obtain ⟨k, s, A, c, P, i, t, x⟩ := a
  obtain ⟨hk, hs, hi, hP, hP2⟩ := ha
  dsimp only at hk hs hi hP hP2 ⊢
  obtain ⟨W, hW, gW, hbl, hsz⟩ := box_new w (.cells #[.int .u8 (k : Int), .string s, .slice A P.length c, .int .i64 i, .int .i64 t, .int .u8 (x.toNat : Int)] 43 (0, 0))
  have HX := Lib.hid (h.below hbl)
  have g0 := cell_of_heap (i := 0) gW rfl
  have g1 := cell_of_heap (i := 1) gW rfl
  have g2 := cell_of_heap (i := 2) gW rfl
  have g3 := cell_of_heap (i := 3) gW rfl
  have g4 := cell_of_heap (i := 4) gW rfl
  have g5 := cell_of_heap (i := 5) gW rfl
  have HB := Lib.hid hbl
  have HP := Lib.hid (hP.below hbl (Nat.le_refl _))
  obtain ⟨m, hm⟩ : ∃ m, k % 9 = m := ⟨_, rfl⟩
  have hm9 : m < 9 := by omega
  have e9 : (k : Int).tmod 9 = (m : Int) := by rw [Int.tmod_eq_emod_of_nonneg (by omega)]; omega
  clear h hs hi hP hP2 gW hbl hsz hm hk
  have w9 : IntKind.u8.wrap (m : Int) = (m : Int) := by
    simp only [IntKind.wrap, IntKind.bits, IntKind.signed]
    simp
    omega
  rcases (show m = 0 ∨ m = 1 ∨ m = 2 ∨ m = 3 ∨ m = 4 ∨ m = 5 ∨ m = 6 ∨ m = 7 ∨ m = 8 by omega) with rfl | rfl | rfl | rfl | rfl | rfl | rfl | rfl | rfl
  · have HC := Lib.hid (n_write HX.out s A P.length c)
    go_enter Try.func21, Try.ntmps21
    go_wp2_with (go_at_call 11; refine HC.out.mono ?_; rintro e w2 ⟨rfl, rfl⟩)
    exact bodyPost_ret (v := .tuple #[.string ⟨#[]⟩, .int .i64 1]) (by simp [results, Try.results21, go_sem]) rfl ⟨rfl, HB.out⟩
  · have HC := Lib.hid (n_write HX.out s A P.length c)
    go_enter Try.func21, Try.ntmps21
    go_wp2_with (go_at_call 11; refine HC.out.mono ?_; rintro e w2 ⟨rfl, rfl⟩)
    exact bodyPost_ret (v := .tuple #[.string ⟨#[]⟩, .int .i64 1]) (by simp [results, Try.results21, go_sem]) rfl ⟨rfl, HB.out⟩
  · have HC := Lib.hid (fun (W1 : World) (h1 : NoneAt W1 p) => n_put h1 s i (firstL P))
    have HF := Lib.hid (fun (W1 : World) (h1 : Lies encS 1 W1 A P) => first_at A c P W1 h1)
    obtain ⟨y, hy⟩ : ∃ y, firstL P = y := ⟨_, rfl⟩
    rw [hy] at HC HF
    obtain ⟨n, hn⟩ : ∃ n, P.length = n := ⟨_, rfl⟩
    rw [hn] at g2 hW HF ⊢
    clear hn hy
    go_enter Try.func21, Try.ntmps21
    go_wp2
    go_region_held3 (fun wx => wx.cell? ⟨w.heap.size, 1, none⟩ = some (.string s) ∧ wx.cell? ⟨w.heap.size, 2, none⟩ = some (.slice A n c) ∧ wx.cell? ⟨w.heap.size, 3, none⟩ = some (.int .i64 i))
      (first | exact ⟨g1, g2, g3⟩)
      ((first
        | (go_at_call 17; refine (HC.out _ (drewN_none 1 HX.out)).mono ?_; rintro e w2 ⟨rfl, rfl⟩)
        | (go_at_call 46; refine (HF.out _ (HP.out.drewN 1)).mono ?_; rintro e w1 ⟨rfl, rfl⟩)))
    all_goals
      go_wp2
      exact bodyPost_ret (v := .tuple #[.string ⟨#[]⟩, .int .i64 1]) (by simp [results, Try.results21, go_sem]) rfl ⟨rfl, HB.out.trans ((below_drewNg W 1).mono HB.out.size)⟩
  · have HC := Lib.hid (fun (W1 : World) (h1 : NoneAt W1 p) => n_put h1 s i (firstL P))
    have HF := Lib.hid (fun (W1 : World) (h1 : Lies encS 1 W1 A P) => first_at A c P W1 h1)
    obtain ⟨y, hy⟩ : ∃ y, firstL P = y := ⟨_, rfl⟩
    rw [hy] at HC HF
    obtain ⟨n, hn⟩ : ∃ n, P.length = n := ⟨_, rfl⟩
    rw [hn] at g2 hW HF ⊢
    clear hn hy
    go_enter Try.func21, Try.ntmps21
    go_wp2
    go_region_held3 (fun wx => wx.cell? ⟨w.heap.size, 1, none⟩ = some (.string s) ∧ wx.cell? ⟨w.heap.size, 2, none⟩ = some (.slice A n c) ∧ wx.cell? ⟨w.heap.size, 3, none⟩ = some (.int .i64 i))
      (first | exact ⟨g1, g2, g3⟩)
      ((first
        | (go_at_call 17; refine (HC.out _ (drewN_none 1 HX.out)).mono ?_; rintro e w2 ⟨rfl, rfl⟩)
        | (go_at_call 46; refine (HF.out _ (HP.out.drewN 1)).mono ?_; rintro e w1 ⟨rfl, rfl⟩)))
    all_goals
      go_wp2
      exact bodyPost_ret (v := .tuple #[.string ⟨#[]⟩, .int .i64 1]) (by simp [results, Try.results21, go_sem]) rfl ⟨rfl, HB.out.trans ((below_drewNg W 1).mono HB.out.size)⟩
  · have HC := Lib.hid (n_read HX.out s i)
    go_enter Try.func21, Try.ntmps21
    go_wp2_with (go_at_call 14; refine HC.out.mono ?_; rintro e w2 ⟨rfl, rfl⟩)
    exact bodyPost_ret (v := .tuple #[.string ⟨#[]⟩, .int .i64 1]) (by simp [results, Try.results21, go_sem]) rfl ⟨rfl, HB.out⟩
  · have HC := Lib.hid (n_read HX.out s i)
    go_enter Try.func21, Try.ntmps21
    go_wp2_with (go_at_call 14; refine HC.out.mono ?_; rintro e w2 ⟨rfl, rfl⟩)
    exact bodyPost_ret (v := .tuple #[.string ⟨#[]⟩, .int .i64 1]) (by simp [results, Try.results21, go_sem]) rfl ⟨rfl, HB.out⟩
  · have HC := Lib.hid (n_remove HX.out s)
    go_enter Try.func21, Try.ntmps21
    go_wp2_with (go_at_call 34; refine HC.out.mono ?_; rintro e w2 ⟨rfl, rfl⟩)
    exact bodyPost_ret (v := .tuple #[.string ⟨#[]⟩, .int .i64 1]) (by simp [results, Try.results21, go_sem]) rfl ⟨rfl, HB.out⟩
  · have HC := Lib.hid (n_fail HX.out i)
    go_enter Try.func21, Try.ntmps21
    go_wp2_with (go_at_call 13; refine HC.out.mono ?_; rintro e w2 ⟨rfl, rfl⟩)
    exact bodyPost_ret (v := .tuple #[.string ⟨#[]⟩, .int .i64 1]) (by simp [results, Try.results21, go_sem]) rfl ⟨rfl, HB.out⟩
  · have HC := Lib.hid (n_flip HX.out s i t (x.toNat : Int))
    go_enter Try.func21, Try.ntmps21
    go_wp2_with (go_at_call 35; refine HC.out.mono ?_; rintro e w2 ⟨rfl, rfl⟩)
    exact bodyPost_ret (v := .tuple #[.string ⟨#[]⟩, .int .i64 1]) (by simp [results, Try.results21, go_sem]) rfl ⟨rfl, HB.out⟩
end Go.Proofs.Ytnpdnnaemfdinaa.F
