/- Said. Conditions: those that the theorem names. -/
import Derived.Test.YtnpdnnaemfdinaaRff
namespace Go.Proofs.Ytnpdnnaemfdinaa.F
open Go.RowKit Go.Maps Go.Sort Go.Shelf
open Go.Proofs.Ytnpdnnaemfdinaa.Ma
set_option linter.unusedVariables false
set_option linter.unusedSimpArgs false
theorem rback {X : Nat → Prop} {w W w' : World} {r : Nat} {room left : Int} {D : List De} (hb : Below w.heap.size w W) (h : RfX (Xw X W w') w' r room left D) (hf : Fr (fun k => k = r) W w') :
    RfX (Xw X w w') w' r room left D ∧ Fr (fun k => k = r) w w' :=
  ⟨h.mono (fun k hk => hk.imp id (fun ⟨a, b⟩ => ⟨Nat.le_trans hb.size a, b⟩)), ((Fr.of_below hb).mono (fun _ e => e.elim)).trans hf⟩
theorem rkeep3 {w W w' : World} {r : Nat} {s : ByteArray} {v : Value} {i : Int} (hf : Fr (fun k => k = r) (W.drewN 1) w') (hs : w.heap.size < W.heap.size) (hr : r < w.heap.size)
    (g1 : W.cell? ⟨w.heap.size, 1, none⟩ = some (.string s)) (g2 : W.cell? ⟨w.heap.size, 2, none⟩ = some v) (g3 : W.cell? ⟨w.heap.size, 3, none⟩ = some (.int .i64 i)) :
    w'.cell? ⟨w.heap.size, 1, none⟩ = some (.string s) ∧ w'.cell? ⟨w.heap.size, 2, none⟩ = some v ∧ w'.cell? ⟨w.heap.size, 3, none⟩ = some (.int .i64 i) := by
  have hx : ¬ w.heap.size = r := by omega
  exact ⟨hf.cell g1 hs hx, hf.cell g2 hs hx, hf.cell g3 hs hx⟩
set_option maxRecDepth 100000 in
set_option maxHeartbeats 4000000 in
theorem said_at {X : Nat → Prop} {w : World} {r : Nat} {room left : Int} {D : List De} (a : Ac) (ha : AcAt w a) (hl : a.ps.length ≤ 1000000) (h : RfX X w r room left D) (hrise : D.Pairwise fun p q => nm p.1 < nm q.1) (hn : D.length ≤ 4096) (hp : (pagesD D : Int) ≤ room) (hrm : room ≤ 4096) (hll : ∀ s, (lookD D s).length ≤ 4096) (hfull : ∀ s, ∀ x ∈ lookD D s, x.size = 128) (hlf : -1 ≤ left ∧ left ≤ 9223372036854775807) :
    Calls Try.prog 22 #[.pointer (some ⟨r, 0, none⟩), .agg #[.int .u8 (a.kind : Int), .string a.name, .slice a.adr a.ps.length a.cap, .int .i64 a.i, .int .i64 a.at_, .int .u8 (a.x.toNat : Int)]] w fun e w' => e = .returned (.tuple #[.string (doneF room left D a).1, .int .i64 (doneF room left D a).2.1]) ∧ RfX (Xw X w w') w' r room (doneF room left D a).2.2.1 (doneF room left D a).2.2.2 ∧ Fr (fun k => k = r) w w' := by
  obtain ⟨k, s, A, c, P, i, t, x⟩ := a
  obtain ⟨hk, hs, hi, hP, hP2⟩ := ha
  dsimp only at hk hs hi hP hP2 hl ⊢
  unfold doneF
  dsimp only
  obtain ⟨W, hW, gW, hbl, hsz⟩ := box_new w (.cells #[.int .u8 (k : Int), .string s, .slice A P.length c, .int .i64 i, .int .i64 t, .int .u8 (x.toNat : Int)] 43 (0, 0))
  have HX := Lib.hid (h.below hbl)
  have HRL := Lib.hid h.lt
  have HRI := Lib.hid hrise
  have HN := Lib.hid hn
  have HPR := Lib.hid (And.intro hp hrm)
  have HLL := Lib.hid hll
  have HFU := Lib.hid hfull
  have HLF := Lib.hid hlf
  have g0 := cell_of_heap (i := 0) gW rfl
  have g1 := cell_of_heap (i := 1) gW rfl
  have g2 := cell_of_heap (i := 2) gW rfl
  have g3 := cell_of_heap (i := 3) gW rfl
  have g4 := cell_of_heap (i := 4) gW rfl
  have g5 := cell_of_heap (i := 5) gW rfl
  have HB := Lib.hid hbl
  have HZ := Lib.hid (show w.heap.size < W.heap.size by omega)
  have HS := Lib.hid hs
  have HI := Lib.hid hi
  have HP := Lib.hid (hP.below hbl (Nat.le_refl _))
  have HL := Lib.hid hl
  obtain ⟨m, hm⟩ : ∃ m, k % 9 = m := ⟨_, rfl⟩
  have hm9 : m < 9 := by omega
  have e9 : (k : Int).tmod 9 = (m : Int) := by rw [Int.tmod_eq_emod_of_nonneg (by omega)]; omega
  rw [hm]
  clear h hs hi hP hl hP2 gW hbl hsz hm hk hrise hn hp hrm hll hfull hlf
  have w9 : IntKind.u8.wrap (m : Int) = (m : Int) := by
    simp only [IntKind.wrap, IntKind.bits, IntKind.signed]
    simp
    omega
  rcases (show m = 0 ∨ m = 1 ∨ m = 2 ∨ m = 3 ∨ m = 4 ∨ m = 5 ∨ m = 6 ∨ m = 7 ∨ m = 8 by omega) with rfl | rfl | rfl | rfl | rfl | rfl | rfl | rfl | rfl
  · rw [if_pos (by decide)]
    have HC := Lib.hid (rwrite_at s HS.out A c P HP.out HL.out HX.out HRI.out HN.out (by have := HPR.out; omega) HPR.out.2 (HLL.out s))
    generalize writeF room D s P = rr at HC ⊢
    generalize P.length = n at g2 HC hW ⊢
    go_enter Try.func22, Try.ntmps22
    go_wp2_with (go_at_call 47; refine HC.out.mono ?_; rintro e w2 ⟨rfl, h2, hf2⟩; have H2 := Lib.hid (rback HB.out h2 hf2); clear h2 hf2)
    exact bodyPost_ret (v := .tuple #[.string ⟨#[]⟩, .int .i64 rr.1]) (by simp [results, Try.results22, go_sem]) rfl ⟨rfl, H2.out⟩
  · rw [if_pos (by decide)]
    have HC := Lib.hid (rwrite_at s HS.out A c P HP.out HL.out HX.out HRI.out HN.out (by have := HPR.out; omega) HPR.out.2 (HLL.out s))
    generalize writeF room D s P = rr at HC ⊢
    generalize P.length = n at g2 HC hW ⊢
    go_enter Try.func22, Try.ntmps22
    go_wp2_with (go_at_call 47; refine HC.out.mono ?_; rintro e w2 ⟨rfl, h2, hf2⟩; have H2 := Lib.hid (rback HB.out h2 hf2); clear h2 hf2)
    exact bodyPost_ret (v := .tuple #[.string ⟨#[]⟩, .int .i64 rr.1]) (by simp [results, Try.results22, go_sem]) rfl ⟨rfl, H2.out⟩
  · rw [if_neg (by decide), if_pos (by decide)]
    have HC := Lib.hid (fun (W1 : World) (h1 : RfX X W1 r room left D) => rput_at s HS.out i (firstL P) h1 HRI.out HN.out HPR.out.1 HPR.out.2 (HLL.out s))
    have HF := Lib.hid (fun (W1 : World) (h1 : Lies encS 1 W1 A P) => first_at A c P W1 h1)
    generalize putF room D s i (firstL P) = rr at HC ⊢
    obtain ⟨y, hy⟩ : ∃ y, firstL P = y := ⟨_, rfl⟩
    rw [hy] at HC HF
    obtain ⟨n, hn⟩ : ∃ n, P.length = n := ⟨_, rfl⟩
    rw [hn] at g2 hW HF ⊢
    clear hn hy
    go_enter Try.func22, Try.ntmps22
    go_wp2
    go_region_held3 (fun wx => wx.cell? ⟨w.heap.size, 1, none⟩ = some (.string s) ∧ wx.cell? ⟨w.heap.size, 2, none⟩ = some (.slice A n c) ∧ wx.cell? ⟨w.heap.size, 3, none⟩ = some (.int .i64 i))
      (first | exact ⟨g1, g2, g3⟩ | exact S2.out)
      ((first
        | (go_at_call 48; refine (HC.out _ (HX.out.drewN 1)).mono ?_; rintro e w2 ⟨rfl, h2, hf2⟩; have H2 := Lib.hid (rback HB.out h2 (Fr.trans (Fr.drewN _ W 1) hf2)); have S2 := Lib.hid (rkeep3 hf2 HZ.out HRL.out g1 g2 g3); clear h2 hf2)
        | (go_at_call 46; refine (HF.out _ (HP.out.drewN 1)).mono ?_; rintro e w1 ⟨rfl, rfl⟩)))
    all_goals
      go_wp2
      exact bodyPost_ret (v := .tuple #[.string ⟨#[]⟩, .int .i64 rr.1]) (by simp [results, Try.results22, go_sem]) rfl ⟨rfl, H2.out⟩
  · rw [if_neg (by decide), if_pos (by decide)]
    have HC := Lib.hid (fun (W1 : World) (h1 : RfX X W1 r room left D) => rput_at s HS.out i (firstL P) h1 HRI.out HN.out HPR.out.1 HPR.out.2 (HLL.out s))
    have HF := Lib.hid (fun (W1 : World) (h1 : Lies encS 1 W1 A P) => first_at A c P W1 h1)
    generalize putF room D s i (firstL P) = rr at HC ⊢
    obtain ⟨y, hy⟩ : ∃ y, firstL P = y := ⟨_, rfl⟩
    rw [hy] at HC HF
    obtain ⟨n, hn⟩ : ∃ n, P.length = n := ⟨_, rfl⟩
    rw [hn] at g2 hW HF ⊢
    clear hn hy
    go_enter Try.func22, Try.ntmps22
    go_wp2
    go_region_held3 (fun wx => wx.cell? ⟨w.heap.size, 1, none⟩ = some (.string s) ∧ wx.cell? ⟨w.heap.size, 2, none⟩ = some (.slice A n c) ∧ wx.cell? ⟨w.heap.size, 3, none⟩ = some (.int .i64 i))
      (first | exact ⟨g1, g2, g3⟩ | exact S2.out)
      ((first
        | (go_at_call 48; refine (HC.out _ (HX.out.drewN 1)).mono ?_; rintro e w2 ⟨rfl, h2, hf2⟩; have H2 := Lib.hid (rback HB.out h2 (Fr.trans (Fr.drewN _ W 1) hf2)); have S2 := Lib.hid (rkeep3 hf2 HZ.out HRL.out g1 g2 g3); clear h2 hf2)
        | (go_at_call 46; refine (HF.out _ (HP.out.drewN 1)).mono ?_; rintro e w1 ⟨rfl, rfl⟩)))
    all_goals
      go_wp2
      exact bodyPost_ret (v := .tuple #[.string ⟨#[]⟩, .int .i64 rr.1]) (by simp [results, Try.results22, go_sem]) rfl ⟨rfl, H2.out⟩
  · rw [if_neg (by decide), if_neg (by decide), if_neg (by decide), if_neg (by decide), if_neg (by decide)]
    have HC := Lib.hid (rread_at s i HX.out HN.out HLF.out (HLL.out s))
    generalize readD left D s i = rr at HC ⊢
    generalize P.length = n at g2 hW ⊢
    go_enter Try.func22, Try.ntmps22
    go_wp2_with (go_at_call 30; refine HC.out.mono ?_; rintro e w2 ⟨rfl, h2, hf2⟩; have H2 := Lib.hid (rback HB.out h2 hf2); clear h2 hf2)
    exact bodyPost_ret (v := .tuple #[.string rr.1, .int .i64 rr.2.1]) (by simp [results, Try.results22, go_sem]) rfl ⟨rfl, H2.out⟩
  · rw [if_neg (by decide), if_neg (by decide), if_neg (by decide), if_neg (by decide), if_neg (by decide)]
    have HC := Lib.hid (rread_at s i HX.out HN.out HLF.out (HLL.out s))
    generalize readD left D s i = rr at HC ⊢
    generalize P.length = n at g2 hW ⊢
    go_enter Try.func22, Try.ntmps22
    go_wp2_with (go_at_call 30; refine HC.out.mono ?_; rintro e w2 ⟨rfl, h2, hf2⟩; have H2 := Lib.hid (rback HB.out h2 hf2); clear h2 hf2)
    exact bodyPost_ret (v := .tuple #[.string rr.1, .int .i64 rr.2.1]) (by simp [results, Try.results22, go_sem]) rfl ⟨rfl, H2.out⟩
  · rw [if_neg (by decide), if_neg (by decide), if_pos (by decide)]
    have HC := Lib.hid (rremove_at s HX.out HRI.out HN.out)
    generalize removeF D s = rr at HC ⊢
    generalize P.length = n at g2 hW ⊢
    go_enter Try.func22, Try.ntmps22
    go_wp2_with (go_at_call 49; refine HC.out.mono ?_; rintro e w2 ⟨rfl, h2, hf2⟩; have H2 := Lib.hid (rback HB.out h2 hf2); clear h2 hf2)
    exact bodyPost_ret (v := .tuple #[.string ⟨#[]⟩, .int .i64 rr.1]) (by simp [results, Try.results22, go_sem]) rfl ⟨rfl, H2.out⟩
  · rw [if_neg (by decide), if_neg (by decide), if_neg (by decide), if_pos (by decide)]
    have HC := Lib.hid (rfail_at i HX.out)
    generalize failF left i = rr at HC ⊢
    generalize P.length = n at g2 hW ⊢
    go_enter Try.func22, Try.ntmps22
    go_wp2_with (go_at_call 50; refine HC.out.mono ?_; rintro e w2 ⟨rfl, h2, hf2⟩; have H2 := Lib.hid (rback HB.out h2 hf2); clear h2 hf2)
    exact bodyPost_ret (v := .tuple #[.string ⟨#[]⟩, .int .i64 rr.1]) (by simp [results, Try.results22, go_sem]) rfl ⟨rfl, H2.out⟩
  · rw [if_neg (by decide), if_neg (by decide), if_neg (by decide), if_neg (by decide), if_pos (by decide)]
    have HC := Lib.hid (rflip_at s i t x HX.out HRI.out HN.out (HLL.out s) (HFU.out s))
    generalize flipF D s i t x = rr at HC ⊢
    generalize P.length = n at g2 hW ⊢
    go_enter Try.func22, Try.ntmps22
    go_wp2_with (go_at_call 51; refine HC.out.mono ?_; rintro e w2 ⟨rfl, h2, hf2⟩; have H2 := Lib.hid (rback HB.out h2 hf2); clear h2 hf2)
    exact bodyPost_ret (v := .tuple #[.string ⟨#[]⟩, .int .i64 rr.1]) (by simp [results, Try.results22, go_sem]) rfl ⟨rfl, H2.out⟩
end Go.Proofs.Ytnpdnnaemfdinaa.F
