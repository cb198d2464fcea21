/- packed: how many bits; a table's bytes. Conditions: those that each theorem names. -/
import Derived.Test.YtdlmkdldmiiaiaaSum
namespace Go.Proofs.Ytdlmkdldmiiaiaa.E
open Go.RowKit Go.Sort Go.Shelf
open Go.Proofs.Ytdlmkdldmiiaiaa.Ma Go.Proofs.Ytdlmkdldmiiaiaa.By
set_option linter.unusedVariables false
set_option linter.unusedSimpArgs false
def widthC (n : Int) : Int := if n < 0 then 33 else min ((Lib.bitLen n.toNat : Nat) : Int) 33
def maxW (L : List Int) : Int := L.foldl (fun m n => max m (widthC n)) 0
theorem maxW_take {L : List Int} {k : Nat} {x : Int} (h : L[k]? = some x) : maxW (L.take (k + 1)) = max (maxW (L.take k)) (widthC x) := by
  unfold maxW
  rw [List.take_add_one, h, List.foldl_append]
  rfl
theorem width_at (n : Int) (w : World) (h : -9223372036854775808 ≤ n ∧ n ≤ 9223372036854775807) : Calls Try.prog 68 #[.int .i64 n] w fun e w' => e = .returned (.int .i64 (widthC n)) ∧ w' = w := by
  by_cases hn : n < 0
  · have e1 : widthC n = 33 := by unfold widthC; rw [if_pos hn]
    rw [e1]
    clear h
    go_enter Try.func68, Try.ntmps68
    go_wp2
    go_ret
    exact ⟨rfl, rfl⟩
  · obtain ⟨u, rfl⟩ : ∃ u : Nat, n = (u : Int) := ⟨n.toNat, by omega⟩
    have e1 : widthC (u : Int) = min ((Lib.bitLen u : Nat) : Int) 33 := by unfold widthC; rw [if_neg hn, Int.toNat_natCast]
    rw [e1]
    have H := Lib.hid (Try.bits_Len (u : Int) w (by omega) (by omega))
    have e2 : IntKind.u64.wrap (u : Int) = (u : Int) := IntWalk.u64_in _ ⟨by omega, by omega⟩
    clear h
    go_enter Try.func68, Try.ntmps68
    go_wp2_with (go_at_call 61; refine H.out.mono ?_; rintro e w2 ⟨rfl, rfl⟩)
    go_ret
    exact ⟨rfl, rfl⟩
theorem widthC_in (n : Int) : 0 ≤ widthC n ∧ widthC n ≤ 33 := by
  unfold widthC
  split <;> omega
theorem maxW_in : ∀ (L : List Int), 0 ≤ maxW L ∧ maxW L ≤ 33 := by
  have : ∀ (L : List Int) (m : Int), 0 ≤ m ∧ m ≤ 33 → 0 ≤ L.foldl (fun m n => max m (widthC n)) m ∧ L.foldl (fun m n => max m (widthC n)) m ≤ 33 := by
    intro L
    induction L with
    | nil => intro m h; exact h
    | cons x r ih =>
      intro m h
      rw [List.foldl_cons]
      have := widthC_in x
      exact ih _ (by omega)
  exact fun L => this L 0 (by omega)
set_option maxRecDepth 100000 in
set_option maxHeartbeats 4000000 in
theorem maxw_at (A : Option Addr) (c : Nat) (L : List Int) (w : World) (hL : Lies encI 1 w A L) (hl : L.length ≤ 1000000) (hr : ∀ x ∈ L, -9223372036854775808 ≤ x ∧ x ≤ 9223372036854775807) :
    Calls Try.prog 37 #[.slice A L.length c] w fun e w' => e = .returned (.int .i64 (maxW L)) ∧ w' = w := by
  have HL := Lib.hid hL
  have HN := Lib.hid hl
  have HR := Lib.hid hr
  clear hL hl hr
  go_enter Try.func37, Try.ntmps37
  go_wp2
  go_loop [3, 8] (fun x i => ∃ (k : Nat) (m : Int), x = .int .i64 m ∧ i = .int .i64 (k : Int) ∧ k ≤ L.length ∧ m = maxW (L.take k)) (fun _ i => L.length - (intOf i).toNat)
  case atStart => exact ⟨0, 0, rfl, rfl, by omega, rfl⟩
  case round =>
    obtain ⟨k, m, rfl, rfl, hk, hm⟩ := hrel
    by_cases hlt : k < L.length
    · obtain ⟨x, hx⟩ : ∃ p, L[k]? = some p := ⟨L[k], List.getElem?_eq_getElem _⟩
      obtain ⟨b, o, rfl, _, hc⟩ := lies1 HL.out hx
      have i1 : (k : Int) < (L.length : Int) := by omega
      have i2 : (k : Int) < 1000000 := by have := HN.out; omega
      have HK := Lib.hid hlt
      have HM := Lib.hid (maxW_take hx)
      rw [← hm] at HM
      have HW := Lib.hid (width_at x w (HR.out x (List.mem_of_getElem? hx)))
      clear hx hk hlt hm
      go_wp2_with (go_at_call 68; refine HW.out.mono ?_; rintro e w2 ⟨rfl, rfl⟩)
      go_round
      case rel => exact ⟨k + 1, max m (widthC x), rfl, by go_num, HK.out, HM.out.symm⟩
      case measure => have := HK.out; simp [intOf]; omega
    · obtain rfl : k = L.length := by omega
      rw [List.take_length] at hm
      subst hm
      clear hk hlt
      go_wp2
      go_ret
      exact ⟨rfl, rfl⟩
/-! ### the bits that wait -/
def flushN (w : Nat) : Nat → Nat → Int → List UInt8 → Nat × Int × List UInt8
  | 0, h, m, o => (h, m, o)
  | f + 1, h, m, o => if (w : Int) ≤ m ∧ 0 < m then flushN w f (h / 256) (m - 8) (o ++ [UInt8.ofNat h]) else (h, m, o)
/-- The boxes of what is written, of the bits that wait, and of how many. -/
structure PS (B : Nat) (w : World) (h : Nat) (m : Int) (out : List UInt8) : Prop where
  hm : w.heap[B + 2]? = some (.cells #[.int .i64 m] 3 (0, 0))
  hh : w.heap[B + 1]? = some (.cells #[.int .u64 (h : Int)] 113 (0, 0))
  ho : ∃ v, w.heap[B]? = some (.cells #[v] 52 (0, 0)) ∧ w.ownsRow (B + 3) 5 1 v out.length (cellsK encY out)
theorem PS.lt {B : Nat} {w : World} {h : Nat} {m : Int} {out : List UInt8} (p : PS B w h m out) : B + 3 ≤ w.heap.size := lt_of_heap p.hm
theorem one_cell {w : World} {b : Nat} {v : Value} {T : TypeId} (h : w.heap[b]? = some (.cells #[v] T (0, 0))) : w.cell? ⟨b, 0, none⟩ = some v ∧ w.frozen? ⟨b, 0, none⟩ = false :=
  ⟨cell_of_heap h rfl, free_of_heap h (by simp)⟩
theorem PS.setM {B : Nat} {w : World} {h : Nat} {m : Int} {out : List UInt8} (p : PS B w h m out) (x : Int) : PS B (w.setCell ⟨B + 2, 0, none⟩ (.int .i64 x)) h x out := by
  have hs := Fr.setCell w ⟨B + 2, 0, none⟩ (.int .i64 x)
  obtain ⟨v, hv, hr⟩ := p.ho
  refine ⟨heap_setCell_at p.hm _, hs.keep p.hh (by show ¬ B + 1 = B + 2; omega), v, hs.keep hv (by show ¬ B = B + 2; omega), hs.row hr (fun g hg e => ?_)⟩
  have := (hr.lt g hg).1
  have e' : g = B + 2 := e
  omega
theorem PS.setH {B : Nat} {w : World} {h : Nat} {m : Int} {out : List UInt8} (p : PS B w h m out) (x : Nat) : PS B (w.setCell ⟨B + 1, 0, none⟩ (.int .u64 (x : Int))) x m out := by
  have hs := Fr.setCell w ⟨B + 1, 0, none⟩ (.int .u64 (x : Int))
  obtain ⟨v, hv, hr⟩ := p.ho
  refine ⟨hs.keep p.hm (by show ¬ B + 2 = B + 1; omega), heap_setCell_at p.hh _, v, hs.keep hv (by show ¬ B = B + 1; omega), hs.row hr (fun g hg e => ?_)⟩
  have := (hr.lt g hg).1
  have e' : g = B + 1 := e
  omega
theorem PS.to {B : Nat} {w w' : World} {h : Nat} {m : Int} {out : List UInt8} (p : PS B w h m out) (hb : Below w.heap.size w w') : PS B w' h m out := by
  have hs := Fr.of_below hb
  obtain ⟨v, hv, hr⟩ := p.ho
  exact ⟨hs.keep p.hm (fun e => e), hs.keep p.hh (fun e => e), v, hs.keep hv (fun e => e), hs.row hr (fun _ _ e => e)⟩
/-- A byte more: the append, and its store. -/
theorem PS.app {B : Nat} {w w' : World} {h : Nat} {m : Int} {out R : List UInt8} {v v' : Value} {o : Obj} (p : PS B w h m out) (hv : w.heap[B]? = some (.cells #[v] 52 (0, 0))) (hown : w.ownsRow (B + 3) 5 1 v out.length (cellsK encY out))
    (hf : Fr (fun k => v.ownBlock = some k) (w.alloc o) w') (hr : w'.ownsRow (B + 3) 5 1 v' R.length (cellsK encY R)) : PS B (w'.setCell ⟨B, 0, none⟩ v') h m R ∧ Below B w (w'.setCell ⟨B, 0, none⟩ v') ∧ w'.cell? ⟨B, 0, none⟩ = some v ∧ w'.frozen? ⟨B, 0, none⟩ = false := by
  have hlt := p.lt
  have ha : Fr (fun k => v.ownBlock = some k) w w' := by
    refine Fr.trans ((Fr.alloc w o).mono (fun _ e => e.elim)) hf
  have hS : ∀ k, v.ownBlock = some k → B + 3 ≤ k := fun k hk => (hown.lt k hk).1
  have k0 : w'.heap[B]? = some (.cells #[v] 52 (0, 0)) := ha.keep hv (fun e => by have := hS _ e; omega)
  have hs := Fr.setCell w' ⟨B, 0, none⟩ v'
  refine ⟨⟨hs.keep (ha.keep p.hm (fun e => by have := hS _ e; omega)) (by show ¬ B + 2 = B; omega), hs.keep (ha.keep p.hh (fun e => by have := hS _ e; omega)) (by show ¬ B + 1 = B; omega), v', heap_setCell_at k0 _, hs.row hr (fun g hg e => ?_)⟩, ?_, one_cell k0⟩
  · have := (hr.lt g hg).1
    have e' : g = B := e
    omega
  · exact (ha.below (by omega) (fun k hk => by have := hS k hk; omega)).trans (hs.below (by have := ha.size; omega) (fun k e => by have e' : k = B := e; omega))
def manyIn (w : World) (b : Nat) : Nat := match w.heap[b]? with
  | some (.cells cs _ _) => match cs[0]? with
    | some (Value.int _ x) => x.toNat
    | _ => 0
  | _ => 0
theorem PS.many {B : Nat} {w : World} {h : Nat} {m : Int} {out : List UInt8} (p : PS B w h m out) : manyIn w (B + 2) = m.toNat := by
  unfold manyIn
  rw [p.hm]
  rfl
theorem byte_wrap (h : Nat) : IntKind.u8.wrap (h : Int) = ((UInt8.ofNat h).toNat : Int) := by
  rw [IntKind.wrap_u8, UInt8.toNat_ofNat']
  omega
set_option maxRecDepth 100000 in
set_option maxHeartbeats 4000000 in
theorem flush_at (B n : Nat) (h : Nat) (m : Int) (out : List UInt8) (f : Nat) (w : World) (hP : PS B w h m out) (hm : -9 < m ∧ m ≤ 100) (hf : m < 8 * (f : Int)) (hn : n ≤ 8) (hl : out.length ≤ 900000) (hff : f ≤ 100) :
    Calls Try.prog 69 #[.int .i64 (n : Int), .pointer (some ⟨B + 2, 0, none⟩), .pointer (some ⟨B, 0, none⟩), .pointer (some ⟨B + 1, 0, none⟩)] w fun e w' => (∃ v, e = .returned v) ∧
      PS B w' (flushN n f h m out).1 (flushN n f h m out).2.1 (flushN n f h m out).2.2 ∧ Below B w w' := by
  obtain ⟨Q, hQ⟩ : ∃ Q, flushN n f h m out = Q := ⟨_, rfl⟩
  rw [hQ]
  have HP := Lib.hid hP
  have HQ := Lib.hid hQ
  have HM := Lib.hid hm
  have HF := Lib.hid hf
  have HN := Lib.hid hn
  have HL := Lib.hid hl
  have HFF := Lib.hid hff
  clear hP hQ hm hf hn hl hff
  go_enter Try.func69, Try.ntmps69
  go_wp2
  go_loopw [5] (fun u wi => ∃ (f' h' : Nat) (m' : Int) (o' : List UInt8), flushN n f' h' m' o' = Q ∧ PS B wi h' m' o' ∧ -9 < m' ∧ m' ≤ 100 ∧ m' < 8 * (f' : Int) ∧ o'.length + f' ≤ 900000 + f ∧ f' ≤ f ∧ Below B w wi) (fun _ wi => manyIn wi (B + 2))
  case atStart => exact ⟨f, h, m, out, HQ.out, HP.out, HM.out.1, HM.out.2, HF.out, by have := HL.out; omega, by omega, Below.refl _ _⟩
  case round =>
    obtain ⟨f', h', m', o', hq, hp, hm1, hm2, hf', ho', hff, hb⟩ := hrel
    obtain ⟨z, hz, hown⟩ := hp.ho
    obtain ⟨c0, f0⟩ := one_cell hz
    obtain ⟨c1, f1⟩ := one_cell hp.hh
    obtain ⟨c2, f2⟩ := one_cell hp.hm
    have HOWN := Lib.hid hown
    have HZ := Lib.hid hz
    have HPP := Lib.hid hp
    have HB := Lib.hid hb
    by_cases c : (n : Int) ≤ m' ∧ 0 < m'
    · obtain ⟨g, rfl⟩ : ∃ g, f' = g + 1 := ⟨f' - 1, by omega⟩
      unfold flushN at hq
      rw [if_pos c] at hq
      have HQQ := Lib.hid hq
      obtain ⟨R, hR⟩ : ∃ R, o' ++ [UInt8.ofNat h'] = R := ⟨_, rfl⟩
      rw [hR] at hq HQQ
      have HR := Lib.hid hR
      have HRl := Lib.hid (show R.length + g ≤ 900000 + f by rw [← hR, List.length_append]; simp; omega)
      have HOl := Lib.hid (show o'.length ≤ 1000000 by have := HFF.out; omega)
      have HMM := Lib.hid (And.intro hm1 (And.intro hm2 (And.intro hf' (And.intro hff c.2))))
      have HBY := Lib.hid (byte_wrap h')
      have HMW := Lib.hid (PS.many hp)
      have HBS := Lib.hid (Nat.le_trans hp.lt (Nat.le_refl _))
      have b1 : (n : Int) ≤ m' := c.1
      have b2 : 0 < m' := c.2
      have b3 : m' ≤ 100 := hm2
      clear hq hR hp hown hz hb hm1 hm2 hf' ho' hff c
      go_upto_region 3 with (at_builtin; refine wp_appY rfl _ _ rfl (B + 3) o' (UInt8.ofNat h') R HR.out z rfl (HOWN.out.alloc _) wr.heap.size _ HBY.out rfl (heap_alloc_new wr _) HOl.out (Nat.le_trans HBS.out (by simp)) ?_; intro A4 c4 w4 hr4 hf4 _; obtain ⟨r1, r2, r3, r4⟩ := HPP.out.app HZ.out HOWN.out hf4 hr4; have R1 := Lib.hid r1; have R2 := Lib.hid r2; clear r1 r2 hr4 hf4)
      obtain ⟨w5, hw5⟩ : ∃ V, w4.setCell ⟨B, 0, none⟩ (.slice A4 R.length c4) = V := ⟨_, rfl⟩
      rw [hw5] at R1 R2 ⊢
      obtain ⟨c0', f0'⟩ := one_cell R1.out.hh
      obtain ⟨y, hy⟩ : ∃ y : Nat, (h' : Int) / 256 = (y : Int) := ⟨h' / 256, by omega⟩
      have HY := Lib.hid (show h' / 256 = y by omega)
      clear hw5 r3 r4 c0 f0 c1 f1 c2 f2
      go_upto_region 1 with (fail)
      obtain ⟨w6, hw6⟩ : ∃ V, w5.setCell ⟨B + 1, 0, none⟩ (.int .u64 (y : Int)) = V := ⟨_, rfl⟩
      have S1 := Lib.hid (R1.out.setH y)
      have S2 := Lib.hid ((Fr.setCell w5 ⟨B + 1, 0, none⟩ (.int .u64 (y : Int))).below (B := B) (by have := R1.out.lt; omega) (fun k e => by have e' : k = B + 1 := e; omega))
      rw [hw6] at S1 S2 ⊢
      obtain ⟨c1, f1⟩ := one_cell S1.out.hm
      clear hw6 c0' f0' hy
      go_wp2
      go_roundw
      case rel =>
        have hs := HMM.out
        exact ⟨g, y, m' - 8, R, by rw [← HQQ.out, HY.out], S1.out.setM _, by omega, by omega, by omega, HRl.out, by omega, HB.out.trans (R2.out.trans (S2.out.trans ((Fr.setCell w6 ⟨B + 2, 0, none⟩ _).below (B := B) (by have := S1.out.lt; omega) (fun k e => by have e' : k = B + 2 := e; omega))))⟩
      case measure =>
        have hs := HMM.out
        rw [HMW.out, (S1.out.setM (m' - 8)).many]
        omega
    · have hq2 : (h', m', o') = Q := by
        cases f' with
        | zero => exact hq
        | succ g => unfold flushN at hq; rw [if_neg c] at hq; exact hq
      subst hq2
      have HPB := Lib.hid (And.intro hp hb)
      by_cases c3 : (n : Int) ≤ m'
      · have c4 : ¬ 0 < m' := fun h => c ⟨c3, h⟩
        clear hp hown hz hb hm1 hm2 hf' ho' hff c hq
        go_wp2
        go_end0
        exact ⟨⟨_, rfl⟩, HPB.out.1, HPB.out.2⟩
      · clear hp hown hz hb hm1 hm2 hf' ho' hff c hq
        go_wp2
        go_end0
        exact ⟨⟨_, rfl⟩, HPB.out.1, HPB.out.2⟩
end Go.Proofs.Ytdlmkdldmiiaiaa.E
