/- What is done with a file system. Conditions: those that each theorem names. -/
import Derived.Test.YtnpdnnaemfdinaaWf1
namespace Go.Proofs.Ytnpdnnaemfdinaa.F
open Go.RowKit Go.Maps Go.Sort Go.Shelf
open Go.Proofs.Ytnpdnnaemfdinaa.Ma
set_option linter.unusedVariables false
set_option linter.unusedSimpArgs false
/-- An act: its kind, name, where its pages lie, and they, three numbers. -/
structure Ac where
  kind : Nat
  name : ByteArray
  adr : Option Addr
  cap : Nat
  ps : List ByteArray
  i : Int
  at_ : Int
  x : UInt8
abbrev encA (a : Ac) : List Value := [.int .u8 (a.kind : Int), .string a.name, .slice a.adr a.ps.length a.cap, .int .i64 a.i, .int .i64 a.at_, .int .u8 (a.x.toNat : Int)]
theorem encA_len (a : Ac) : (encA a).length = 6 := rfl
/-- Its kind, its name and its number are of their kinds; its pages lie in the world. -/
structure AcAt (w : World) (a : Ac) : Prop where
  kind : a.kind ≤ 255
  name : a.name.size ≤ maxLen
  num : a.i ≤ 9223372036854775807
  row : Lies encS 1 w a.adr a.ps
  len : a.ps.length ≤ maxLen
/-- .. and it is no more than is gone through. -/
structure AcOk (w : World) (a : Ac) : Prop extends AcAt w a where
  short : a.name.size ≤ 40
  few : a.ps.length ≤ 8
theorem AcAt.below {w w' : World} {a : Ac} (h : AcAt w a) (hb : Below w.heap.size w w') : AcAt w' a := ⟨h.kind, h.name, h.num, h.row.below hb (Nat.le_refl _), h.len⟩
theorem AcOk.below {w w' : World} {a : Ac} (h : AcOk w a) (hb : Below w.heap.size w w') : AcOk w' a := ⟨h.toAcAt.below hb, h.short, h.few⟩
/-- The answer is yes or no; if no, then R. -/
def SaysB (e : Ending) (R : Prop) : Prop := ∃ q, e = .returned (.bool q) ∧ (q = false → R)
theorem great5_at (A : Option Addr) (c : Nat) (P : List ByteArray) (m : Nat) (w : World) (hL : Lies encS 1 w A P) (hlen : P.length ≤ maxLen) :
    Calls Try.prog 31 #[.slice A P.length c, .int .i64 (m : Int)] w fun e w' => SaysB e (P.length ≤ m ∧ ∀ s ∈ P, s.size ≤ 300) ∧ w = w' := by
  have hlen' : P.length ≤ 9223372036854775807 := by unfold maxLen at hlen; omega
  by_cases hgt : (m : Int) < (P.length : Int)
  · clear hL
    generalize P.length = n at hgt hlen hlen' ⊢
    go_enter Try.func31, Try.ntmps31
    go_wp2
    go_ret
    exact ⟨⟨true, rfl, by simp⟩, rfl⟩
  · have HL := Lib.hid hL
    have HM := Lib.hid hgt
    clear hL hlen
    go_enter Try.func31, Try.ntmps31
    go_wp2
    go_loop [5] (fun i => ∃ k : Nat, k ≤ P.length ∧ i = .int .i64 k ∧ ∀ s ∈ P.take k, s.size ≤ 300) (fun i => P.length - (intOf i).toNat)
    case atStart => exact ⟨0, by omega, rfl, by simp⟩
    case round =>
      obtain ⟨k, hk, rfl, hs⟩ := hrel
      have HS := Lib.hid hs
      clear hs
      by_cases hlt : k < P.length
      · obtain ⟨y, hy⟩ : ∃ y, P[k]? = some y := ⟨_, List.getElem?_eq_getElem hlt⟩
        obtain ⟨g, o, e, hg, hc⟩ := HL.out k y hy
        have q0 := hc 0 _ rfl
        simp only [Nat.mul_one, Nat.add_zero] at q0
        subst e
        have HY := Lib.hid hy
        have i1 : (k : Int) < (P.length : Int) := by omega
        clear hc hy hg
        by_cases h3 : (300 : Int) < (y.size : Int)
        · go_wp2
          go_ret
          exact ⟨⟨true, rfl, by simp⟩, rfl⟩
        · go_wp2
          go_round
          case rel =>
            refine ⟨k + 1, by omega, by go_num, fun s hs => ?_⟩
            rw [List.take_add_one, HY.out] at hs
            rcases List.mem_append.1 hs with hs | hs
            · exact HS.out s hs
            · obtain rfl : s = y := by simpa using hs
              omega
          case measure => simp [intOf]; omega
      · obtain rfl : k = P.length := by omega
        go_wp2
        go_ret
        refine ⟨⟨false, rfl, fun _ => ⟨by have := HM.out; omega, fun s hs => HS.out s (by rw [List.take_length]; exact hs)⟩⟩, rfl⟩
set_option maxRecDepth 100000 in
theorem great_at (A : Option Addr) (c : Nat) (L : List Ac) (m : Nat) (w : World) (hL : Lies encA 6 w A L) (hlen : L.length ≤ maxLen) (hA : ∀ a ∈ L, AcAt w a) :
    Calls Try.prog 19 #[.slice A L.length c, .int .i64 (m : Int)] w fun e w' => SaysB e (L.length ≤ m ∧ ∀ a ∈ L, AcOk w a) ∧ w = w' := by
  have hlen' : L.length ≤ 9223372036854775807 := by unfold maxLen at hlen; omega
  by_cases hgt : (m : Int) < (L.length : Int)
  · clear hL hA
    generalize L.length = n at hgt hlen hlen' ⊢
    go_enter Try.func19, Try.ntmps19
    go_wp2
    go_ret
    exact ⟨⟨true, rfl, by simp⟩, rfl⟩
  · have HL := Lib.hid hL
    have HA := Lib.hid hA
    have HM := Lib.hid hgt
    clear hL hA hlen
    go_enter Try.func19, Try.ntmps19
    go_wp2
    go_loop [5] (fun i => ∃ k : Nat, k ≤ L.length ∧ i = .int .i64 k ∧ ∀ a ∈ L.take k, AcOk w a) (fun i => L.length - (intOf i).toNat)
    case atStart => exact ⟨0, by omega, rfl, by simp⟩
    case round =>
      obtain ⟨k, hk, rfl, hs⟩ := hrel
      have HS := Lib.hid hs
      clear hs
      by_cases hlt : k < L.length
      · obtain ⟨y, hy⟩ : ∃ y, L[k]? = some y := ⟨_, List.getElem?_eq_getElem hlt⟩
        obtain ⟨g, o, e, hg, hc⟩ := HL.out k y hy
        have q1 := hc 1 _ rfl
        have q2 := hc 2 _ rfl
        subst e
        have HY := Lib.hid hy
        have HY2 := Lib.hid (HA.out y (List.mem_of_getElem? hy))
        have HG := Lib.hid (fun w hl hn => great5_at y.adr y.cap y.ps 8 w hl hn)
        have i1 : (k : Int) < (L.length : Int) := by omega
        obtain ⟨s, hs⟩ : ∃ s, y.name = s := ⟨_, rfl⟩
        obtain ⟨n, hn⟩ : ∃ n, y.ps.length = n := ⟨_, rfl⟩
        obtain ⟨yA, hyA⟩ : ∃ A, y.adr = A := ⟨_, rfl⟩
        obtain ⟨yc, hyc⟩ : ∃ c, y.cap = c := ⟨_, rfl⟩
        rw [hs] at q1
        rw [hn, hyA, hyc] at q2
        rw [hn, hyA, hyc] at HG
        have HN := Lib.hid hs
        have HP := Lib.hid hn
        have HYA := Lib.hid hyA
        clear hc hy hg hs hn hyA hyc
        by_cases h3 : (40 : Int) < (s.size : Int)
        · go_wp2
          go_ret
          exact ⟨⟨true, rfl, by simp⟩, rfl⟩
        · have HS3 := Lib.hid h3
          go_wp2_with (go_at_call 31; refine (HG.out _ (by rw [← HYA.out]; exact HY2.out.row) (by rw [← HP.out]; exact HY2.out.len)).mono ?_; rintro e w1 ⟨⟨q, rfl, hq⟩, rfl⟩; have HQ := Lib.hid hq; clear hq; cases q)
          · go_round
            case rel =>
              refine ⟨k + 1, by omega, by go_num, fun a ha => ?_⟩
              rw [List.take_add_one, HY.out] at ha
              rcases List.mem_append.1 ha with ha | ha
              · exact HS.out a ha
              · obtain rfl : a = y := by simpa using ha
                exact ⟨HY2.out, by rw [HN.out]; have := HS3.out; omega, by rw [HP.out]; exact (HQ.out (by simp)).1⟩
            case measure => simp [intOf]; omega
          · go_ret
            exact ⟨⟨true, rfl, by simp⟩, rfl⟩
      · obtain rfl : k = L.length := by omega
        go_wp2
        go_ret
        refine ⟨⟨false, rfl, fun _ => ⟨by have := HM.out; omega, fun s hs => HS.out s (by rw [List.take_length]; exact hs)⟩⟩, rfl⟩
end Go.Proofs.Ytnpdnnaemfdinaa.F
