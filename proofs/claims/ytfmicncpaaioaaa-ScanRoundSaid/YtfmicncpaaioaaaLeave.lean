/- ScanLeave, walked: each of them is served or leaves; then the cursor goes on. Conditions: the arguments lie as they may. -/
import Derived.Deep.Slices
import Derived.ChangeSame
import Derived.WideShapes
import Derived.WalkArith
import Derived.Test.YtfmicncpaaioaaaStp
namespace Go.Proofs.Ytfmicncpaaioaaa.Sc
open Go.ChangeShapes Go.WideShapes Go.Deep Go.RowKit Go.Maps Go.Sort Go.Shelf
open Go.Proofs.Ytfmicncpaaioaaa.Ma
set_option linter.unusedVariables false
set_option linter.unusedSimpArgs false
def IsBools (w : World) (A : Option Addr) (len : Nat) (xs : List Bool) : Prop := xs.length = len ∧ ∀ k x, xs[k]? = some x → ∃ g o, A = some ⟨g, o, none⟩ ∧ g < w.heap.size ∧ w.cell? ⟨g, o + k, none⟩ = some (.bool x)
theorem spot_none {w : World} {a : Addr} {v : Value} (h : w.cell? a = some v) : a.spot = none := by
  obtain ⟨e, n, _, _, hs⟩ := World.shape?_of_cell? h
  exact hs
theorem add_flat {a : Addr} (h : a.spot = none) (k : Nat) : a.add k = ⟨a.block, a.off + k, none⟩ := by
  obtain ⟨b, o, s⟩ := a
  dsimp only at h
  subst h
  unfold Addr.add
  split
  · rename_i e; subst e; rfl
  · rfl
theorem add_block (a : Addr) (k : Nat) : (a.add k).block = a.block := by
  unfold Addr.add
  split <;> rfl
theorem bools_of {H : Type} {enc : TypeId × Value → H} {W : World} {A : Option Addr} {len cap : Nat} {d : DataW H} {p : List MemPlace} (h : DataW.Trod enc Try.prog W 0 (fun _ => true) true 54 (.slice A len cap) d p) :
    len ≤ 9223372036854775807 ∧ ∃ xs, IsBools W A len xs := by
  obtain ⟨fuel, hf⟩ := h
  rcases open_slice1 Try.underlying54 (by kernel_rfl) hf with ⟨hcs, _⟩ | ⟨a, l, c, m, n, V, D, Pl, hcs, _, hl, hm, hmm, _, hi⟩
  · simp [Value.cells] at hcs
    obtain ⟨rfl, rfl, rfl⟩ := hcs
    exact ⟨by omega, [], rfl, fun k x hx => by simp at hx⟩
  · simp [Value.cells] at hcs
    obtain ⟨rfl, rfl, rfl⟩ := hcs
    have hlm : len ≤ m := by rw [hmm]; simp; exact hl
    refine ⟨by unfold maxLen at hm; omega, ?_⟩
    have key : ∀ i, i < len → ∃ x : Bool, a.spot = none ∧ a.block < W.heap.size ∧ W.cell? ⟨a.block, a.off + i, none⟩ = some (.bool x) := by
      have hone : ∀ i, i < len → ∃ x : Bool, W.cell? (a.add i) = some (.bool x) := by
        intro i hil
        obtain ⟨hc, ht⟩ := hi i (by omega)
        obtain ⟨x, e0, _⟩ := DataW.trod_bool Try.underlying4 ht
        simp only [List.cons.injEq, and_true] at e0
        exact ⟨x, by rw [hc, e0]⟩
      intro i hil
      obtain ⟨x0, h0⟩ := hone 0 (by omega)
      obtain ⟨x, hx⟩ := hone i hil
      have hs : a.spot = none := by simpa [Addr.add] using spot_none h0
      have hb := World.block_lt_of_cell? W _ hx
      rw [add_block] at hb
      rw [add_flat hs] at hx
      exact ⟨x, hs, hb, hx⟩
    refine ⟨(List.range len).map fun i => if h : i < len then (key i h).choose else false, by simp, fun k x hx => ?_⟩
    have hk : k < len := by
      have := (List.getElem?_eq_some_iff.1 hx).1
      simpa using this
    have e : x = (key k hk).choose := by
      simp [hk] at hx
      exact hx.symm
    obtain ⟨hs, hb, r⟩ := (key k hk).choose_spec
    rw [← e] at r
    exact ⟨a.block, a.off, by rw [← hs], hb, r⟩
def firstA (k : Nat) : List Ent := (List.range k).map fun (i : Nat) => ((i : Int), false)
/-- Of n, the first j have been asked; those of m have stayed. -/
def M (n j m : Nat) : List Ent := (List.range n).filterMap fun i => if i < j then (if m.testBit i then some ((i : Int), false) else none) else some ((i : Int), true)
theorem m_facts : ∀ n : Fin 5, ∀ j : Fin 5, j < n → ∀ m : Fin 16, m.val < 2 ^ j.val → advF 2 0 (M n j m) = ((0, 271), 0, M n j m) ∧ detF (M n j m) (j.val : Int) = (0, M n (j.val + 1) m) ∧ serF (M n j m) (j.val : Int) = (0, M n (j.val + 1) (m + 2 ^ j.val)) ∧
    (M n (j.val + 1) m).length + 1 = (M n j m).length ∧ (M n (j.val + 1) (m + 2 ^ j.val)).length = (M n j m).length := by decide +kernel
theorem m_last : ∀ n : Fin 5, ∀ m : Fin 16, advF 2 0 (M n n m) = ((1, 0), 1, allT (M n n m)) ∧ (idsOf false (allT (M n n m))).length = (M n n m).length ∧ (M n 0 0).length = n := by decide +kernel
theorem a_first : ∀ n : Fin 5, ∀ k : Fin 5, k < n → attF (firstA k) (k.val : Int) = (0, firstA (k.val + 1)) := by decide +kernel
theorem a_last : ∀ n : Fin 5, advF 2 (-1) (firstA n) = ((0, 0), 0, M n 0 0) := by decide +kernel
theorem leave_at (x : Int) (hx : 0 ≤ x) (hx2 : x ≤ 255) (A : Option Addr) (len cap : Nat) (xs : List Bool) (w : World) (hl : len ≤ 9223372036854775807) (hd : IsBools w A len xs) : Calls Try.prog 7 #[.int .u8 x, .slice A len cap] w fun e w' => e = .returned (.bool true) ∧ Below w.heap.size w w' := by
  have HD := Lib.hid hd
  clear hd
  by_cases hbig : 20 < len
  · have e1 : decide ((20 : Int) < (len : Int)) = true := by simp; omega
    go_enter Try.func7, Try.ntmps7
    go_wp2_with fail
    refine (new_step w w 2 (by omega) (by omega) (Below.refl _ _)).mono ?_
    rintro e w1 ⟨b, bm, rfl, h1, _, _, _⟩
    go_wp2_with (go_at_call 8; refine (rides_calls _).mono ?_; rintro e w14 ⟨rfl, hb14⟩)
    go_ret
    exact ⟨rfl, h1.below.trans (hb14.mono h1.below.size)⟩
  · have hc : IntKind.i64.wrap x = x := IntWalk.i64_in _ ⟨by omega, by omega⟩
    obtain ⟨r, hr⟩ : ∃ r, x % 4 = r := ⟨_, rfl⟩
    have hm0 : (x.tmod 4) = r := by rw [← hr]; exact Int.tmod_eq_emod_of_nonneg hx
    have hmw : IntKind.i64.wrap r = r := IntWalk.i64_in _ ⟨by omega, by omega⟩
    obtain ⟨n, hn, hn4⟩ : ∃ n : Nat, 1 + r = (n : Int) ∧ n ≤ 4 := ⟨(1 + r).toNat, by omega, by omega⟩
    have hmn : IntKind.i64.wrap (n : Int) = (n : Int) := IntWalk.i64_in _ ⟨by omega, by omega⟩
    have e1 : decide ((20 : Int) < (len : Int)) = false := by simp; omega
    clear hr
    go_enter Try.func7, Try.ntmps7
    go_wp2_with fail
    refine (new_step w w 2 (by omega) (by omega) (Below.refl _ _)).mono ?_
    rintro e w1 ⟨b, bm, rfl, h1, _, _, _⟩
    go_wp2_with fail
    have hnf : n < 5 := by omega
    clear hc hm0 hmw hmn hn e1
    go_loopw [8] (fun i wr => ∃ k : Nat, k ≤ n ∧ i = .int .i64 k ∧ St w wr b bm 2 (-1) (firstA k)) (fun i _ => n - (intOf i).toNat)
    case atStart => exact ⟨0, by omega, rfl, h1⟩
    case round =>
      obtain ⟨k, hk, rfl, h⟩ := hrel
      by_cases hkn : k < n
      · have hv := a_first ⟨n, hnf⟩ ⟨k, by omega⟩ hkn
        go_wp2_with (go_at_call 11; refine (att_step h hv (Go.WalkArith.wf_i64 ⟨by omega, by omega⟩)).mono ?_; rintro e w2 ⟨rfl, h2, _⟩)
        go_roundw
        case rel => exact ⟨k + 1, by omega, by go_num, h2⟩
        case measure => simp [intOf]; omega
      · obtain rfl : k = n := by omega
        go_wp2_with fail
        refine (adv_step h (a_last ⟨k, hnf⟩)).mono ?_
        rintro e w2 ⟨rfl, h2, _⟩
        clear h h1
        go_wp2
        have hlen0 := (m_last ⟨k, hnf⟩ 0).2.2
        go_loopw [10, 11, 12] (fun c g i wr => ∃ (j gone m : Nat), j ≤ k ∧ i = .int .i64 j ∧ g = .int .i64 gone ∧ c = .int .i64 0 ∧ m < 2 ^ j ∧ (M k j m).length + gone = k ∧ St w wr b bm 2 0 (M k j m)) (fun _ _ i _ => k - (intOf i).toNat)
        case atStart => exact ⟨0, 0, 0, by omega, rfl, rfl, rfl, by decide, hlen0, h2⟩
        case round =>
          obtain ⟨j, gone, m, hj, rfl, rfl, rfl, hm, hlen, h⟩ := hrel
          by_cases hjk : j < k
          · have hm16 : m < 16 := by
              have : 2 ^ j ≤ 2 ^ 3 := Nat.pow_le_pow_right (by omega) (by omega)
              omega
            obtain ⟨f1, f2, f3, f4, f5⟩ := m_facts ⟨k, hnf⟩ ⟨j, by omega⟩ hjk ⟨m, hm16⟩ hm
            dsimp only at f1 f2 f3 f4 f5
            have hwf : I64 (j : Int) := Go.WalkArith.wf_i64 ⟨by omega, by omega⟩
            have hm2 : m + 2 ^ j < 2 ^ (j + 1) := by rw [Nat.pow_succ]; omega
            have hm3 : m < 2 ^ (j + 1) := by rw [Nat.pow_succ]; omega
            have P2 := Lib.hid (And.intro hm2 hm3)
            clear hm hm2 hm3
            go_wp2_with fail
            refine (adv_step h f1).mono ?_
            rintro e w3 ⟨rfl, h3, _⟩
            by_cases hjl : j < len
            · obtain ⟨y, hy⟩ : ∃ y, xs[j]? = some y := ⟨xs[j]'(by have := HD.out.1; omega), List.getElem?_eq_getElem _⟩
              obtain ⟨g, o, rfl, hg, hcell⟩ := HD.out.2 j y hy
              have q : w3.cell? ⟨g, o + j, none⟩ = some (.bool y) := (h3.below.cell (p := ⟨g, o + j, none⟩) hg).trans hcell
              have Q := Lib.hid q
              clear hy hcell h
              cases y
              · go_wp2_with (go_at_call 15; refine (ser_step h3 f3 hwf).mono ?_; rintro e w4 ⟨rfl, h4, _⟩)
                go_roundw
                case rel => exact ⟨j + 1, gone, m + 2 ^ j, by omega, by go_num, rfl, rfl, P2.out.1, by omega, h4⟩
                case measure => simp [intOf]; omega
              · go_wp2_with (go_at_call 13; refine (det_step h3 f2 hwf).mono ?_; rintro e w4 ⟨rfl, h4, _⟩)
                go_roundw
                case rel => exact ⟨j + 1, gone + 1, m, by omega, by go_num, by go_num, rfl, P2.out.2, by omega, h4⟩
                case measure => simp [intOf]; omega
            · clear h
              go_wp2_with (go_at_call 15; refine (ser_step h3 f3 hwf).mono ?_; rintro e w4 ⟨rfl, h4, _⟩)
              go_roundw
              case rel => exact ⟨j + 1, gone, m + 2 ^ j, by omega, by go_num, rfl, rfl, P2.out.1, by omega, h4⟩
              case measure => simp [intOf]; omega
          · obtain rfl : j = k := by omega
            have hm16 : m < 16 := by
              have : 2 ^ j ≤ 2 ^ 4 := Nat.pow_le_pow_right (by omega) (by omega)
              omega
            obtain ⟨g1, g2, _⟩ := m_last ⟨j, hnf⟩ ⟨m, hm16⟩
            dsimp only at g1 g2
            go_wp2_with fail
            refine (adv_step h g1).mono ?_
            rintro e w3 ⟨rfl, h3, _⟩
            clear h h2
            go_wp2_with fail
            refine (wait_step h3 rfl).mono ?_
            rintro e w4 ⟨A4, c4, rfl, ⟨hc1, hc2⟩, _, h4, _⟩
            rw [g2] at hc1 hc2 ⊢
            obtain ⟨z, hz⟩ : ∃ z, (M j j m).length = z := ⟨_, rfl⟩
            rw [hz] at hc1 hc2 hlen ⊢
            have e9 : ((z : Int) == (j : Int) - (gone : Int)) = true := by simp; omega
            have e10 : IntKind.i64.wrap ((j : Int) - (gone : Int)) = (j : Int) - (gone : Int) := IntWalk.i64_in _ ⟨by omega, by omega⟩
            go_wp2_with (go_at_call 8; refine (rides_calls _).mono ?_; rintro e w14 ⟨rfl, hb14⟩)
            go_ret
            exact ⟨rfl, h4.below.trans (hb14.mono h4.below.size)⟩
theorem leave_wf (x : Int) (A : Option Addr) (len cap : Nat) (xs : List Bool) (w : World) (h : (Lit.int .u8 x).wf = true) (hl : len ≤ 9223372036854775807) (hd : IsBools w A len xs) : Calls Try.prog 7 #[.int .u8 x, .slice A len cap] w fun e w' => e = .returned (.bool true) ∧ Below w.heap.size w w' := by
  simp only [Lit.wf, IntKind.min, IntKind.max, IntKind.signed, IntKind.bits] at h
  simp at h
  exact leave_at x (by omega) (by omega) A len cap xs w hl hd
end Go.Proofs.Ytfmicncpaaioaaa.Sc
