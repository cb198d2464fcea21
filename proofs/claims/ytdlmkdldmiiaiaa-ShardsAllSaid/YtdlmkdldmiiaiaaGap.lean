/- gaps: does a list rise; the list at a place. Conditions: those that each theorem names. -/
import Derived.Test.YtdlmkdldmiiaiaaGet
namespace Go.Proofs.Ytdlmkdldmiiaiaa.E
open Go.RowKit Go.Sort Go.Shelf
open Go.Proofs.Ytdlmkdldmiiaiaa.Ma Go.Proofs.Ytdlmkdldmiiaiaa.By
set_option linter.unusedVariables false
set_option linter.unusedSimpArgs false
theorem lies1 {w : World} {A : Option Addr} {L : List Int} (h : Lies encI 1 w A L) {j : Nat} {x : Int} (hx : L[j]? = some x) :
    ∃ b o, A = some ⟨b, o, none⟩ ∧ b < w.heap.size ∧ w.cell? ⟨b, o + j, none⟩ = some (.int .i64 x) := by
  obtain ⟨b, o, e, hb, hc⟩ := h j _ hx
  have := hc 0 _ rfl
  rw [Nat.mul_one, Nat.add_zero] at this
  exact ⟨b, o, e, hb, this⟩
def rises : Int → List Int → Bool
  | _, [] => true
  | last, n :: r => if n ≤ last then false else rises n r
def chkG (L : List Int) : Int := if rises (-1) L then 0 else 2
set_option maxRecDepth 100000 in
set_option maxHeartbeats 4000000 in
theorem check_at (A : Option Addr) (c : Nat) (L : List Int) (w : World) (hL : Lies encI 1 w A L) (hl : L.length ≤ 1000000) :
    Calls Try.prog 65 #[.slice A L.length c] w fun e w' => e = .returned (.int .i64 (chkG L)) ∧ w' = w := by
  have HL := Lib.hid hL
  have HN := Lib.hid hl
  obtain ⟨q, hq⟩ : ∃ q, rises (-1) L = q := ⟨_, rfl⟩
  have e1 : chkG L = if q then 0 else 2 := by unfold chkG; rw [hq]
  rw [e1]
  have HQ := Lib.hid hq
  clear hL hl e1 hq
  go_enter Try.func65, Try.ntmps65
  go_wp2
  go_loop [3, 8] (fun x i => ∃ (k : Nat) (last : Int), x = .int .i64 last ∧ i = .int .i64 (k : Int) ∧ k ≤ L.length ∧ rises last (L.drop k) = q) (fun _ i => L.length - (intOf i).toNat)
  case atStart => exact ⟨0, -1, rfl, rfl, by omega, HQ.out⟩
  case round =>
    obtain ⟨k, last, rfl, rfl, hk, hr⟩ := hrel
    by_cases hlt : k < L.length
    · obtain ⟨x, hx⟩ : ∃ p, L[k]? = some p := ⟨L[k], List.getElem?_eq_getElem _⟩
      obtain ⟨b, o, rfl, _, hc⟩ := lies1 HL.out hx
      have hd : L.drop k = x :: L.drop (k + 1) := by
        have := List.drop_eq_getElem_cons hlt
        rw [List.getElem?_eq_getElem hlt] at hx
        cases hx
        exact this
      rw [hd] at hr
      unfold rises at hr
      have i1 : (k : Int) < (L.length : Int) := by omega
      have i2 : (k : Int) < 1000000 := by have := HN.out; omega
      have HK := Lib.hid hlt
      by_cases hxl : x ≤ last
      · rw [if_pos hxl] at hr
        subst hr
        clear hx hd hk hlt
        go_wp2
        go_ret
        exact ⟨rfl, rfl⟩
      · rw [if_neg hxl] at hr
        have HR := Lib.hid hr
        clear hx hd hk hr hlt
        go_wp2
        go_round
        case rel => exact ⟨k + 1, x, rfl, by have := HN.out; go_num, HK.out, HR.out⟩
        case measure => have := HK.out; simp [intOf]; omega
    · obtain rfl : k = L.length := by omega
      rw [List.drop_length] at hr
      have : q = true := by rw [← hr]; rfl
      subst this
      clear hr hk hlt
      go_wp2
      go_ret
      exact ⟨rfl, rfl⟩
/-- The numbers behind a place, so many, and the place behind them. -/
def decGo (s : ByteArray) : Nat → Int → Int → Option (List Int × Int)
  | 0, _, nx => some ([], nx)
  | m + 1, last, nx => match getC s nx with
    | (gap, nx', ok) => if ok = false ∨ last = 9223372036854775807 ∨ 9223372036854775806 - last < gap then none else
      (decGo s m (last + (gap + 1)) nx').map fun p => ((last + (gap + 1)) :: p.1, p.2)
def decW : Option (List Int × Int) → List Int × Int × Int
  | some (l, z) => (l, z, 0)
  | none => ([], 0, 10)
def decC (s : ByteArray) (a : Int) : List Int × Int × Int := match getC s a with
  | (many, nx, ok) => if ok = false ∨ (s.size : Int) - nx < many then ([], 0, 10) else
    decW (decGo s many.toNat (-1) nx)
theorem decGo_bound {s : ByteArray} : ∀ (m : Nat) (last nx : Int) (l : List Int) (z : Int), decGo s m last nx = some (l, z) → nx ≤ s.size → l.length = m ∧ z ≤ s.size := by
  intro m
  induction m with
  | zero => intro last nx l z h hn; cases h; exact ⟨rfl, hn⟩
  | succ m ih =>
    intro last nx l z h hn
    unfold decGo at h
    obtain ⟨gap, nx', ok, hg⟩ : ∃ gap nx' ok, getC s nx = (gap, nx', ok) := ⟨_, _, _, rfl⟩
    rw [hg] at h
    dsimp only at h
    split at h
    · cases h
    · rename_i hc
      cases ok with
      | false => exact absurd (.inl rfl) hc
      | true =>
        obtain ⟨p, hp, he⟩ := Option.map_eq_some_iff.1 h
        obtain ⟨p1, p2⟩ := p
        cases he
        obtain ⟨r1, r2⟩ := ih _ _ _ _ hp (getC_bound hg).2.2.2.1
        exact ⟨by simp [r1], r2⟩
theorem decC_len {s : ByteArray} {a : Int} : (decC s a).1.length ≤ s.size ∧ (decC s a).2.1 ≤ s.size := by
  unfold decC
  obtain ⟨many, nx, ok, hg⟩ : ∃ gap nx' ok, getC s a = (gap, nx', ok) := ⟨_, _, _, rfl⟩
  rw [hg]
  dsimp only
  split
  · simp
  · rename_i hc
    cases ok with
    | false => exact absurd (.inl rfl) hc
    | true =>
      have hb := getC_bound hg
      cases hd : decGo s many.toNat (-1) nx with
      | none => simp [decW]
      | some p =>
        obtain ⟨l, z⟩ := p
        obtain ⟨r1, r2⟩ := decGo_bound _ _ _ _ _ hd hb.2.2.2.1
        dsimp only [decW]
        have : ¬ ((s.size : Int) - nx < many) := fun h => hc (.inr h)
        omega
set_option maxRecDepth 100000 in
set_option maxHeartbeats 4000000 in
theorem dec_at (s : ByteArray) (a : Int) (w : World) (hs : s.size ≤ 1000000) :
    Calls Try.prog 64 #[.string s, .int .i64 a] w fun e w' => ∃ A c, e = .returned (.tuple #[.slice A (decC s a).1.length c, .int .i64 (decC s a).2.1, .int .i64 (decC s a).2.2]) ∧ w'.ownsRow w.heap.size 3 1 (.slice A (decC s a).1.length c) (decC s a).1.length (cellsK encI (decC s a).1) ∧ Below w.heap.size w w' := by
  obtain ⟨many, nx, ok, hg⟩ : ∃ gap nx' ok, getC s a = (gap, nx', ok) := ⟨_, _, _, rfl⟩
  have h1 := getx_at s a w hs
  have HC := Lib.hid (fun x V => getx_at s x V hs)
  rw [hg] at h1
  dsimp only at h1
  have H1 := Lib.hid h1
  have HS := Lib.hid hs
  have hD : decC s a = if ok = false ∨ (s.size : Int) - nx < many then (([], 0, 10) : List Int × Int × Int) else
    decW (decGo s many.toNat (-1) nx) := by unfold decC; rw [hg]
  cases ok with
  | false =>
    rw [if_pos (.inl rfl)] at hD
    rw [hD]
    clear h1 hD hg hs
    go_enter Try.func64, Try.ntmps64
    go_wp2_with (go_at_call 94; refine H1.out.mono ?_; rintro e w2 ⟨rfl, rfl⟩)
    exact bodyPost_ret (v := .tuple #[.slice none 0 0, .int .i64 0, .int .i64 10]) (by simp [results, Try.results64, go_sem]) rfl ⟨none, 0, rfl, World.ownsRow_nil _ _ _ _, Below.refl _ _⟩
  | true =>
    have hb := getC_bound hg
    by_cases hm : (s.size : Int) - nx < many
    · rw [if_pos (.inr hm)] at hD
      rw [hD]
      have j1 : decide (many > (s.size : Int) - nx) = true := decide_eq_true hm
      obtain ⟨sn, hsn⟩ : ∃ sn, (s.size : Int) - nx = sn := ⟨_, rfl⟩
      have j2 : -1 < sn ∧ sn < 1000001 := by omega
      rw [hsn] at hm j1
      clear h1 hD hg hs
      go_enter Try.func64, Try.ntmps64
      go_wp2_with (go_at_call 94; refine H1.out.mono ?_; rintro e w2 ⟨rfl, rfl⟩)
      exact bodyPost_ret (v := .tuple #[.slice none 0 0, .int .i64 0, .int .i64 10]) (by simp [results, Try.results64, go_sem]) rfl ⟨none, 0, rfl, World.ownsRow_nil _ _ _ _, Below.refl _ _⟩
    · rw [if_neg (by simp; omega)] at hD
      obtain ⟨m0, rfl⟩ : ∃ m0 : Nat, many = (m0 : Int) := ⟨many.toNat, by omega⟩
      rw [Int.toNat_natCast] at hD
      obtain ⟨D, hDD⟩ : ∃ D, decGo s m0 (-1) nx = D := ⟨_, rfl⟩
      rw [hDD] at hD
      have HD0 := Lib.hid (show (decGo s m0 (-1) nx).map (fun p => ([] ++ p.1, p.2)) = D by rw [hDD]; cases D <;> simp)
      have HD := Lib.hid hD
      obtain ⟨sn, hsn⟩ : ∃ sn, (s.size : Int) - nx = sn := ⟨_, rfl⟩
      have j2 : -1 < sn ∧ sn < 1000001 := by omega
      rw [hsn] at hm
      have j1 : decide ((m0 : Int) > sn) = false := decide_eq_false hm
      have HM := Lib.hid (show m0 ≤ 1000000 by omega)
      have HZ := Lib.hid (show ∀ n : Nat, n = n from fun _ => rfl)
      rw [hD]
      clear h1 HD hD hg hs hDD
      go_enter Try.func64, Try.ntmps64
      go_wp2_with (go_at_call 94; refine H1.out.mono ?_; rintro e w2 ⟨rfl, rfl⟩)
      go_loopw [4, 5, 9, 29] (fun v x y i wi => ∃ (k : Nat) (last nk : Int) (acc : List Int), x = .int .i64 nk ∧ y = .int .i64 last ∧ i = .int .i64 (k : Int) ∧ k ≤ m0 ∧ acc.length = k ∧ -1 ≤ last ∧ last ≤ 9223372036854775807 ∧ (decGo s (m0 - k) last nk).map (fun p => (acc ++ p.1, p.2)) = D ∧ wi.ownsRow w2.heap.size 3 1 v acc.length (cellsK encI acc) ∧ Below w2.heap.size w2 wi) (fun _ _ _ i _ => m0 - (intOf i).toNat)
      case atStart => exact ⟨0, -1, nx, [], rfl, rfl, rfl, by omega, rfl, by omega, by omega, HD0.out, World.ownsRow_nil _ _ _ _, Below.refl _ _⟩
      case round =>
        obtain ⟨k, last, nk, acc, rfl, rfl, rfl, hk, ha, hl1, hl2, hr, ho, hbw⟩ := hrel
        have HO := Lib.hid ho
        have HB := Lib.hid hbw
        by_cases hlt : k < m0
        · obtain ⟨d, hd⟩ : ∃ d, m0 - k = d + 1 := ⟨m0 - k - 1, by omega⟩
          rw [hd] at hr
          unfold decGo at hr
          obtain ⟨gap, nk', ok, hg⟩ : ∃ gap nx' ok, getC s nk = (gap, nx', ok) := ⟨_, _, _, rfl⟩
          have h2 := HC.out nk wr
          rw [hg] at h2 hr
          dsimp only at h2 hr
          have H2 := Lib.hid h2
          have i1 : (k : Int) < (m0 : Int) := by omega
          have i2 : (k : Int) < 1000000 := by have := HM.out; omega
          have HAl := Lib.hid (show acc.length ≤ 1000000 by have := HM.out; omega)
          cases ok with
          | false =>
            rw [if_pos (.inl rfl)] at hr
            have hr : D = none := hr.symm
            subst hr
            clear h2 hg hd hlt ha hk hl1 hl2 ho hbw
            go_wp2_with (go_at_call 94; refine H2.out.mono ?_; rintro e w3 ⟨rfl, rfl⟩)
            exact bodyPost_ret (v := .tuple #[.slice none 0 0, .int .i64 0, .int .i64 10]) (by simp [results, Try.results64, go_sem]) rfl ⟨none, 0, rfl, World.ownsRow_nil _ _ _ _, HB.out⟩
          | true =>
            have hgb := getC_bound hg
            by_cases c1 : last = 9223372036854775807
            · rw [if_pos (.inr (.inl c1))] at hr
              have hr : D = none := hr.symm
              subst hr
              have b1 : (last == 9223372036854775807) = true := by rw [c1]; rfl
              clear h2 hg hd hlt ha hk hl1 hl2 ho hbw hgb c1
              go_wp2_with (go_at_call 94; refine H2.out.mono ?_; rintro e w3 ⟨rfl, rfl⟩)
              exact bodyPost_ret (v := .tuple #[.slice none 0 0, .int .i64 0, .int .i64 10]) (by simp [results, Try.results64, go_sem]) rfl ⟨none, 0, rfl, World.ownsRow_nil _ _ _ _, HB.out⟩
            · have b1 : (last == 9223372036854775807) = false := by simpa using c1
              obtain ⟨most, hmost⟩ : ∃ x, 9223372036854775806 - last = x := ⟨_, rfl⟩
              have b2 : wrap64 (9223372036854775806 - last) = most := by rw [← hmost]; unfold wrap64; omega
              have HMO := Lib.hid hmost
              by_cases c2 : most < gap
              · rw [if_pos (.inr (.inr (by rw [hmost]; exact c2)))] at hr
                have hr : D = none := hr.symm
                subst hr
                have b3 : decide (gap > most) = true := decide_eq_true c2
                clear h2 hg hd hlt ha hk hl1 hl2 ho hbw hgb c1 hmost
                go_wp2_with (go_at_call 94; refine H2.out.mono ?_; rintro e w3 ⟨rfl, rfl⟩)
                exact bodyPost_ret (v := .tuple #[.slice none 0 0, .int .i64 0, .int .i64 10]) (by simp [results, Try.results64, go_sem]) rfl ⟨none, 0, rfl, World.ownsRow_nil _ _ _ _, HB.out⟩
              · rw [if_neg (by simp; omega)] at hr
                have b3 : decide (gap > most) = false := decide_eq_false c2
                obtain ⟨l2, hl2'⟩ : ∃ x, last + (gap + 1) = x := ⟨_, rfl⟩
                rw [hl2'] at hr
                have HW := Lib.hid (show wrap64 (last + wrap64 (gap + 1)) = l2 by rw [← hl2']; unfold wrap64; omega)
                obtain ⟨R, hR⟩ : ∃ R, acc ++ [l2] = R := ⟨_, rfl⟩
                have HR := Lib.hid hR
                have HRN := Lib.hid (show (decGo s (m0 - (k + 1)) l2 nk').map (fun p => (R ++ p.1, p.2)) = D by
                  rw [show m0 - (k + 1) = d by omega, ← hr, ← hR, Option.map_map]
                  congr 1
                  funext p
                  simp)
                have HRL := Lib.hid (show R.length = k + 1 by rw [← hR, List.length_append, ha]; rfl)
                have HLL := Lib.hid (show -1 ≤ l2 ∧ l2 ≤ 9223372036854775807 by omega)
                have HK := Lib.hid hlt
                clear h2 hg hd hlt ha hk hl1 hl2 ho hbw hgb c1 hmost hr hR hl2'
                go_upto_region 12 with (go_at_call 94; refine H2.out.mono ?_; rintro e w3 ⟨rfl, rfl⟩)
                rw [HW.out]
                clear b1 b2 b3
                go_wp2_with (at_builtin; refine wp_appN rfl _ _ rfl w2.heap.size acc l2 R HR.out _ rfl (HO.out.alloc _) w3.heap.size rfl (heap_alloc_new w3 _) HAl.out (Nat.le_trans HB.out.size (by simp)) ?_; intro A4 c4 w4 hr4 hf4 _; have HB4 := Lib.hid ((HB.out.alloc HB.out.size (.cells #[.int .i64 l2] 3)).trans (hf4.below (Nat.le_trans HB.out.size (by simp)) (fun i e => (HO.out.lt i e).1))); have HR4 := Lib.hid hr4; clear hr4 hf4)
                go_roundw
                case rel => exact ⟨k + 1, l2, nk', R, rfl, rfl, by go_num, HK.out, HRL.out, HLL.out.1, HLL.out.2, HRN.out, HR4.out, HB4.out⟩
                case measure => have := HK.out; simp [intOf]; omega
        · obtain rfl : k = m0 := by omega
          rw [Nat.sub_self] at hr
          have hr : D = some (acc, nk) := by rw [← hr]; simp [decGo]
          subst hr
          obtain ⟨A9, c9, rfl, _, _⟩ := row_open encI_len ho
          clear hk hlt hl1 hl2 ho hbw
          go_wp2
          exact bodyPost_ret (v := .tuple #[.slice A9 acc.length c9, .int .i64 nk, .int .i64 0]) (by simp [results, Try.results64, go_sem]) rfl ⟨A9, c9, rfl, HO.out, HB.out⟩
end Go.Proofs.Ytdlmkdldmiiaiaa.E
