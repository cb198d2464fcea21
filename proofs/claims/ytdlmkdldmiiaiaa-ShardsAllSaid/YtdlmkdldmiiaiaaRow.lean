/- Rows of bytes and of numbers that calls lay and lengthen. Conditions: those that each theorem names. -/
import Derived.WalkKit
import Derived.OwnWalk
import Derived.Laws.LoneSync
import Derived.Laws.OwnMore
import Derived.Laws.StructEq
import Derived.Deep.QuietTactic
import Derived.BigQuiet
import Derived.WalkSpells
import Derived.WalkLawsBesides
import Derived.Deep.RegionHeld3
import Derived.Deep.RegionLaw
import Derived.Deep.DrawnRows
import Derived.StillTailTactics
import Derived.Lib.Hide
import Derived.Maps.AppendAt
import Derived.Shelf.SlicesE.Kit
import Derived.Shelf.SlSortCmp.QuietGrown
import Derived.Deep.AppendLies
import Derived.Deep.CutBlock
import Derived.Laws.IdiomStrings
import Derived.Test.YtdlmkdldmiiaiaaShelf
import Derived.Test.YtdlmkdldmiiaiaaBy
namespace Go.Proofs.Ytdlmkdldmiiaiaa.E
open Go.RowKit Go.Sort Go.Shelf
open Go.Proofs.Ytdlmkdldmiiaiaa.Ma Go.Proofs.Ytdlmkdldmiiaiaa.By
set_option linter.unusedVariables false
set_option linter.unusedSimpArgs false
abbrev encI (x : Int) : List Value := [.int .i64 x]
abbrev encY (x : UInt8) : List Value := [.int .u8 (x.toNat : Int)]
theorem encI_len (x : Int) : (encI x).length = 1 := rfl
theorem encY_len (x : UInt8) : (encY x).length = 1 := rfl
theorem info3 : (Try.prog.info? 3).map (fun i => (i.zero, i.size, i.bytes)) = some (some (.int .i64 0), 1, 8) := by kernel_rfl
theorem info5 : (Try.prog.info? 5).map (fun i => (i.zero, i.size, i.bytes)) = some (some (.int .u8 0), 1, 1) := by kernel_rfl
theorem below_drewNg (w : World) (n : Nat) : Below w.heap.size w (w.drewN n) := ⟨rfl, rfl, rfl, Nat.le_refl _, fun _ _ => rfl⟩
section
variable {ops : Array Oper} {rest : List Oper} {o : Oper} {a : Act} {Q : Exit → Act → World → Prop} {w : World}
/-- One number more onto a row of the call's own. -/
theorem wp_appN (hgd : o.guard = none) (s x : Operand) (ho : o.op = .call { callee := .builtin .append, args := #[s, x], argTypes := #[62, 62] })
    (B : Nat) (L : List Int) (y : Int) (R : List Int) (hR : L ++ [y] = R) (v : Value) (hs : a.eval s = v) (hown : w.ownsRow B 3 1 v L.length (cellsK encI L)) (b : Nat) (hx : a.eval x = .slice (some ⟨b, 0, none⟩) 1 1) (hb : w.heap[b]? = some (.cells #[.int .i64 y] 3 (0, 0)))
    (hlen : L.length ≤ 1000000) (hB : B ≤ w.heap.size)
    (h : ∀ A c w', w'.ownsRow B 3 1 (.slice A R.length c) R.length (cellsK encI R) → Fr (fun k => v.ownBlock = some k) w w' → (∀ g, (Value.slice A R.length c).ownBlock = some g → v.ownBlock = some g ∨ w.heap.size ≤ g) →
      wpList Try.prog ops Q rest (a.put o.dst (.slice A R.length c)) w') : wpList Try.prog ops Q (o :: rest) a w := by
  obtain ⟨i0, hi, hz0, hz1, hz2⟩ := info_parts info3
  subst hR
  refine wpList_append_own_at _ hgd s x 62 ho B 3 i0 _ 1 8 Try.underlying62 hi hz0 hz1 hz2 rfl (by decide) v L.length (cellsK encI L) hs hown ⟨b, 0, none⟩ 1 1 [.int .i64 y] hx rfl (World.news_of_block hb) (by simp [Value.oneCell']) (by unfold maxLen; omega) (by omega) hB ?_
  intro v' w' h1 h2 h3 h4
  have h1' : w'.ownsRow B 3 1 v' (L ++ [y]).length (cellsK encI (L ++ [y])) := by
    rw [cellsK_append, cellsK_one, List.length_append]
    exact h1
  obtain ⟨A, c, rfl, _, _⟩ := row_open encI_len h1'
  refine h A c w' h1' (Fr.of_grownR h2) (fun g hg => ?_)
  rcases h4 with e | e
  · exact .inl (e ▸ hg)
  · rw [hg] at e
    cases e
    exact .inr (Nat.le_refl _)
/-- One byte more onto a row of the call's own. -/
theorem wp_appY (hgd : o.guard = none) (s x : Operand) (ho : o.op = .call { callee := .builtin .append, args := #[s, x], argTypes := #[52, 52] })
    (B : Nat) (L : List UInt8) (y : UInt8) (R : List UInt8) (hR : L ++ [y] = R) (v : Value) (hs : a.eval s = v) (hown : w.ownsRow B 5 1 v L.length (cellsK encY L)) (b : Nat) (z : Int) (hz : z = (y.toNat : Int)) (hx : a.eval x = .slice (some ⟨b, 0, none⟩) 1 1) (hb : w.heap[b]? = some (.cells #[.int .u8 z] 5 (0, 0)))
    (hlen : L.length ≤ 1000000) (hB : B ≤ w.heap.size)
    (h : ∀ A c w', w'.ownsRow B 5 1 (.slice A R.length c) R.length (cellsK encY R) → Fr (fun k => v.ownBlock = some k) w w' → (∀ g, (Value.slice A R.length c).ownBlock = some g → v.ownBlock = some g ∨ w.heap.size ≤ g) →
      wpList Try.prog ops Q rest (a.put o.dst (.slice A R.length c)) w') : wpList Try.prog ops Q (o :: rest) a w := by
  obtain ⟨i0, hi, hz0, hz1, hz2⟩ := info_parts info5
  subst hz
  subst hR
  refine wpList_append_own_at _ hgd s x 52 ho B 5 i0 _ 1 1 Try.underlying52 hi hz0 hz1 hz2 rfl (by decide) v L.length (cellsK encY L) hs hown ⟨b, 0, none⟩ 1 1 [.int .u8 (y.toNat : Int)] hx rfl (World.news_of_block hb) (by simp [Value.oneCell']) (by unfold maxLen; omega) (by omega) hB ?_
  intro v' w' h1 h2 h3 h4
  have h1' : w'.ownsRow B 5 1 v' (L ++ [y]).length (cellsK encY (L ++ [y])) := by
    rw [cellsK_append, cellsK_one, List.length_append]
    exact h1
  obtain ⟨A, c, rfl, _, _⟩ := row_open encY_len h1'
  refine h A c w' h1' (Fr.of_grownR h2) (fun g hg => ?_)
  rcases h4 with e | e
  · exact .inl (e ▸ hg)
  · rw [hg] at e
    cases e
    exact .inr (Nat.le_refl _)
end
set_option maxRecDepth 100000 in
theorem text_nil (w : World) : (convert 52 9 (.slice none 0 0)).run Try.prog w = .ok (.string ⟨#[]⟩) w := by
  refine (run_convert_bytes_string (P := Try.prog) w 52 9 5 none 0 0 Try.underlying52 Try.underlying5 Try.underlying9).trans ?_
  rfl
/-- A row of bytes as a text. -/
theorem text_row {w : World} {B n c : Nat} {A : Option Addr} {L : List UInt8} (hn : L.length = n) (h : w.ownsRow B 5 1 (.slice A n c) n (cellsK encY L)) : (convert 52 9 (.slice A n c)).run Try.prog w = .ok (.string ⟨L.toArray⟩) w := by
  subst hn
  rcases A with _ | ad
  · rcases h.2 with ⟨e1, e2⟩ | ⟨g, cap, cur, e1, _⟩
    · have hl : L = [] := List.length_eq_zero_iff.1 (by injection e1)
      subst hl
      have hc : c = 0 := by simpa using e1
      rw [hc]
      exact text_nil w
    · cases e1
  · have hl := row_lies encY_len h
    refine run_convert_bytes_back (P := Try.prog) w 52 9 5 ad c L Try.underlying52 Try.underlying5 Try.underlying9 (fun k hk => ?_)
    obtain ⟨b, o, e, _, hc⟩ := hl k _ (List.getElem?_eq_getElem hk)
    cases e
    have := hc 0 _ rfl
    rw [Nat.mul_one, Nat.add_zero] at this
    have e2 : (⟨b, o, none⟩ : Addr).add k = ⟨b, o + k, none⟩ := by
      unfold Addr.add
      split
      · rename_i e; subst e; rfl
      · rfl
    rw [e2]
    exact this
end Go.Proofs.Ytdlmkdldmiiaiaa.E
