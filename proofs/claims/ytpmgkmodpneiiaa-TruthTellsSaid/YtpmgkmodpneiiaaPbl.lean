/- Rows of numbers that may have room behind them; begins. Conditions: those that each theorem names. -/
import Derived.Test.YtpmgkmodpneiiaaLbp
import Derived.Test.YtpmgkmodpneiiaaOpg
namespace Go.Proofs.Ytpmgkmodpneiiaa.E
open Go.RowKit Go.Sort Go.Shelf
open Go.Proofs.Ytpmgkmodpneiiaa.Ma
set_option linter.unusedVariables false
set_option linter.unusedSimpArgs false
/-- A block that begins with these numbers. -/
def PB (w : World) (g : Nat) (out : List Nat) : Prop := ∃ cur : Array Value, w.heap[g]? = some (.cells cur 37 (0, 0)) ∧ ∀ v, v < out.length → cur[v]? = some (.int .u64 (at_ out v : Int))
theorem PB.cell {w : World} {g : Nat} {out : List Nat} (h : PB w g out) {v : Nat} (hv : v < out.length) : w.cell? ⟨g, v, none⟩ = some (.int .u64 (at_ out v : Int)) := by
  obtain ⟨cur, hg, hc⟩ := h
  exact cell_of_heap hg (hc v hv)
theorem PB.free {w : World} {g : Nat} {out : List Nat} (h : PB w g out) {v : Nat} (hv : v < out.length) : w.frozen? ⟨g, v, none⟩ = false := by
  obtain ⟨cur, hg, hc⟩ := h
  exact free_of_heap hg (Array.getElem?_eq_some_iff.1 (hc v hv)).1
theorem PB.set {w : World} {g : Nat} {out : List Nat} (h : PB w g out) {v : Nat} (hv : v < out.length) (x : Nat) : PB (w.setCell ⟨g, v, none⟩ (.int .u64 (x : Int))) g (out.set v x) := by
  obtain ⟨cur, hg, hc⟩ := h
  refine ⟨_, heap_setCell_at hg _, fun i hi => ?_⟩
  rw [List.length_set] at hi
  rw [at_set hv]
  by_cases e : i = v
  · subst e
    rw [if_pos rfl, Array.getElem?_setIfInBounds_self_of_lt (Array.getElem?_eq_some_iff.1 (hc i hi)).1]
  · rw [if_neg e, Array.getElem?_setIfInBounds_ne (fun q => e q.symm)]
    exact hc i hi
theorem PB.fr {S : Nat → Prop} {w w' : World} {g : Nat} {out : List Nat} (h : PB w g out) (hf : Fr S w w') (hS : ¬ S g) : PB w' g out := by
  obtain ⟨cur, hg, hc⟩ := h
  exact ⟨cur, hf.keep hg hS, hc⟩
theorem PB.lt {w : World} {g : Nat} {out : List Nat} (h : PB w g out) : g < w.heap.size := by
  obtain ⟨cur, hg, hc⟩ := h
  exact lt_of_heap hg
theorem PB.lies {w : World} {g : Nat} {out : List Nat} (h : PB w g out) : Lies encU 1 w (some ⟨g, 0, none⟩) (ints out) := fun j x hx => by
  unfold ints at hx
  rw [List.getElem?_map] at hx
  obtain ⟨y, hy, rfl⟩ := Option.map_eq_some_iff.1 hx
  have hj := (List.getElem?_eq_some_iff.1 hy).1
  refine ⟨g, 0, rfl, h.lt, fun i u hu => ?_⟩
  have hi := (List.getElem?_eq_some_iff.1 hu).1
  simp at hi
  subst hi
  simp at hu
  subst hu
  simp only [Nat.mul_one, Nat.zero_add, Nat.add_zero]
  have := h.cell hj
  rw [this]
  have e : at_ out j = y := by simp [at_, List.getD, hy]
  rw [e]
theorem UB.pb {w : World} {g : Nat} {out : List Nat} (h : UB w g out) : PB w g out := ⟨_, h, fun v hv => by simp [uC, at_, List.getD, hv]⟩
section
variable {ops : Array Oper} {rest : List Oper} {o : Oper} {a : Act} {Q : Exit → Act → World → Prop} {w : World}
/-- A copy of numbers behind an empty row. -/
theorem wp_appU (hgd : o.guard = none) (s x : Operand) (ho : o.op = .call { callee := .builtin .append, args := #[s, x], argTypes := #[28, 28] })
    (B : Nat) (v : Value) (hs : a.eval s = v) (hown : w.ownsRow B 37 1 v 0 []) (g n c : Nat) (out : List Nat) (hx : a.eval x = .slice (some ⟨g, 0, none⟩) n c) (hn : out.length = n) (hpb : PB w g out) (h1 : 1 ≤ n) (hn2 : n ≤ 1000) (hB : B ≤ w.heap.size)
    (h : ∀ g2 c2 w', PB w' g2 out → Fr (fun k => v.ownBlock = some k) w w' → B ≤ g2 → wpList Try.prog ops Q rest (a.put o.dst (.slice (some ⟨g2, 0, none⟩) n c2)) w') : wpList Try.prog ops Q (o :: rest) a w := by
  obtain ⟨i0, hi, hz0, hz1, hz2⟩ := info_parts info37
  have hnews : ∀ j u, ((out.map fun y : Nat => Value.int .u64 (y : Int)))[j]? = some u → w.cell? ((⟨g, 0, none⟩ : Addr).add j) = some u := fun j u hu => by
    rw [List.getElem?_map] at hu
    obtain ⟨y, hy, rfl⟩ := Option.map_eq_some_iff.1 hu
    have e0 : (⟨g, 0, none⟩ : Addr).add j = ⟨g, j, none⟩ := by
      unfold Addr.add
      split
      · rename_i e; subst e; rfl
      · simp
    rw [e0, hpb.cell (List.getElem?_eq_some_iff.1 hy).1]
    have e : at_ out j = y := by simp [at_, List.getD, hy]
    rw [e]
  refine wpList_append_own_at _ hgd s x 28 ho B 37 i0 _ 1 8 Try.underlying28 hi hz0 hz1 hz2 rfl (by decide) v 0 [] hs hown ⟨g, 0, none⟩ n c (out.map fun y : Nat => Value.int .u64 (y : Int)) hx (by simp [hn]) hnews (fun u hu => by obtain ⟨y, _, rfl⟩ := List.mem_map.1 hu; rfl) (by unfold maxLen; omega) (by omega) hB ?_
  intro v' w' hr hg _ _
  rw [Nat.zero_add, List.nil_append] at hr
  rcases hr.2 with ⟨_, e⟩ | ⟨g2, cap, cur, e, hb, hgg, _, _, hcs, htake⟩
  · omega
  · subst e
    refine h g2 cap w' ⟨cur, hgg, fun i hi => ?_⟩ (Fr.of_grownR hg) hb
    have this : (cur.toList.take (n * 1))[i]? = (out.map fun y : Nat => Value.int .u64 (y : Int))[i]? := by rw [htake]
    rw [List.getElem?_take, if_pos (by rw [Nat.mul_one, ← hn]; exact hi)] at this
    rw [← Array.getElem?_toList, this]
    simp [at_, List.getD, hi]
end
theorem beginsTo_succ (L : List Ed) (u k : Nat) {e : Ed} (h : L[k]? = some e) : begins (L.take (k + 1)) u = begins (L.take k) u + if e.1 = (u : Int) then 1 else 0 := by
  unfold begins
  rw [List.take_add_one, h, List.filter_append, List.length_append]
  congr 1
  by_cases c : e.1 = (u : Int)
  · rw [if_pos c]; simp [c]
  · rw [if_neg c]; simp [c]
theorem begins_le (L : List Ed) (u : Nat) : begins L u ≤ L.length := by unfold begins; exact List.length_filter_le _ _
theorem u64_one {x : Nat} (h : x ≤ 100000) : IntKind.u64.wrap ((x : Int) + 1) = ((x + 1 : Nat) : Int) := by rw [IntWalk.u64_in _ ⟨by omega, by omega⟩]; omega
set_option maxRecDepth 100000 in
set_option maxHeartbeats 1000000 in
theorem begins_at (A : Option Addr) (c u : Nat) (L : List Ed) (w : World) (hL : Lies enc2 2 w A L) (hl : L.length ≤ 5000) :
    Calls Try.prog 37 #[.slice A L.length c, .int .i64 (u : Int)] w fun e w' => e = .returned (.int .u64 (begins L u : Nat)) ∧ w = w' := by
  have HL := Lib.hid hL
  have HLN := Lib.hid hl
  clear hL hl
  go_enter Try.func37, Try.ntmps37
  go_wp2
  go_loop [5, 6] (fun q i => ∃ k : Nat, k ≤ L.length ∧ i = .int .i64 k ∧ q = .int .u64 (begins (L.take k) u : Nat)) (fun _ i => L.length - (intOf i).toNat)
  case atStart => exact ⟨0, by omega, rfl, rfl⟩
  case round =>
    obtain ⟨k, hk, rfl, rfl⟩ := hrel
    by_cases hlt : k < L.length
    · obtain ⟨⟨x, y⟩, hx⟩ : ∃ x, L[k]? = some x := ⟨_, List.getElem?_eq_getElem hlt⟩
      obtain ⟨g, o, rfl, _, q0, q1⟩ := lies2 HL.out hx
      have hs := beginsTo_succ L u k hx
      have hb : begins (L.take k) u ≤ 5000 := Nat.le_trans (begins_le _ _) (by rw [List.length_take]; have := HLN.out; omega)
      obtain ⟨b, hbb⟩ : ∃ b, begins (L.take k) u = b := ⟨_, rfl⟩
      rw [hbb] at hs hb ⊢
      have i1 : (k : Int) < (L.length : Int) := by omega
      have i2 : (k : Int) < 100000 := by have := HLN.out; omega
      have HK := Lib.hid hlt
      dsimp only at hs
      by_cases hxu : x = (u : Int)
      · rw [if_pos hxu] at hs
        have HS := Lib.hid hs
        have t1 : (x == (u : Int)) = true := by simpa using hxu
        have t2 := u64_one (x := b) (by omega)
        clear hx hs hb hbb hlt hk hxu
        go_wp2
        go_round
        case rel => exact ⟨k + 1, HK.out, by go_num, by rw [HS.out]; exact congrArg _ (Int.natCast_add b 1).symm⟩
        case measure => have := HK.out; simp [intOf]; omega
      · rw [if_neg hxu, Nat.add_zero] at hs
        have HS := Lib.hid hs
        have t1 : (x == (u : Int)) = false := by simpa using hxu
        clear hx hs hb hbb hlt hk hxu
        go_wp2
        go_round
        case rel => exact ⟨k + 1, HK.out, by go_num, by rw [HS.out]; rfl⟩
        case measure => have := HK.out; simp [intOf]; omega
    · obtain rfl : k = L.length := by omega
      rw [List.take_length]
      clear hk hlt
      go_wp2
      go_ret
      exact ⟨rfl, rfl⟩
end Go.Proofs.Ytpmgkmodpneiiaa.E
