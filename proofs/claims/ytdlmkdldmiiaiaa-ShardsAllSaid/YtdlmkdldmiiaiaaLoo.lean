/- A region that draws its order, in which one operation lays a block that one other operation reads, and all others yield the same in whatever order: one walk in the order of the text serves. Conditions: those that the theorem names. -/
import Derived.Deep.Quiet
import Derived.Test.YtdlmkdldmiiaiaaMa
namespace Go.Proofs.Ytdlmkdldmiiaiaa.Loo
set_option linter.unusedVariables false
set_option linter.unusedSimpArgs false
variable {P : Program} {ops : Array Oper} {C : Option Value → World → Prop}
/-- The walk: p is the number of the operation that lays, q that of the one that reads what was laid, dp the slot. -/
def walk (P : Program) (C : Option Value → World → Prop) (p q dp : Nat) (Q : Act → Prop) : Nat → List Oper → Act → Prop
  | _, [], a => Q a
  | k, o :: rest, a =>
    if k = p then (∀ w, C none w → ∃ r w', (execOp a.eval o).run P w = .ok (.value r) w' ∧ C (some r) w') ∧ walk P C p q dp Q (k + 1) rest a
    else if k = q then ∃ v, (∀ r w, C (some r) w → o.quietAt P (a.put (some dp) r) (C (some r)) w v) ∧ walk P C p q dp Q (k + 1) rest (a.put o.dst v)
    else ∃ v, (∀ x w, C x w → o.quietAt P a (C x) w v) ∧ walk P C p q dp Q (k + 1) rest (a.put o.dst v)
/-- May the region be walked so? -/
def okOp (ops : Array Oper) (p q i : Nat) (o : Oper) : Bool :=
  o.guard.isNone && o.after.all (fun e => decide (e.on < i) && Region.binds .any e) &&
  o.op.operands.all (fun x => match x with
    | .tmp t => (List.range ops.size).all fun j => match ops[j]? with
      | some oj => oj.dst != some t || (o.after.any (fun e => e.on == j) && (j != p || i == q))
      | none => true
    | _ => true) &&
  (List.range ops.size).all fun j => j == i || match ops[j]? with
    | some oj => o.dst.isNone || oj.dst != o.dst
    | none => true
def okB (ops : Array Oper) (p q dp : Nat) : Bool :=
  Region.noSelect ops && (p != q) && ((ops[p]?).map (fun o => o.dst == some dp)).getD false && ((ops[q]?).map (fun o => o.after.any fun e => e.on == p)).getD false &&
  (List.range ops.size).all fun i => match ops[i]? with
    | some o => okOp ops p q i o
    | none => true
structure Ok (ops : Array Oper) (p q dp : Nat) : Prop where
  sel : ∀ (j : Nat) (o : Oper) cs b, ops[j]? = some o → o.op ≠ .select cs b
  ne : p ≠ q
  atP : ∃ o, ops[p]? = some o ∧ o.dst = some dp
  atQ : ∃ o, ops[q]? = some o ∧ ∃ e ∈ o.after, e.on = p
  guard : ∀ (i : Nat) (o : Oper), ops[i]? = some o → o.guard = none
  after : ∀ (i : Nat) (o : Oper), ops[i]? = some o → ∀ e ∈ o.after, e.on < i ∧ Region.binds .any e = true
  looks : ∀ (i : Nat) (o : Oper), ops[i]? = some o → ∀ t, Operand.tmp t ∈ o.op.operands → ∀ (j : Nat) (oj : Oper), ops[j]? = some oj → oj.dst = some t → (∃ e ∈ o.after, e.on = j) ∧ (j = p → i = q)
  apart : ∀ (i j : Nat) (o oj : Oper) (t : Nat), ops[i]? = some o → ops[j]? = some oj → o.dst = some t → oj.dst = some t → j = i
theorem ok_of (ops : Array Oper) (p q dp : Nat) (h : okB ops p q dp = true) : Ok ops p q dp := by
  unfold okB at h
  simp only [Bool.and_eq_true] at h
  obtain ⟨⟨⟨⟨h1, h2⟩, h3⟩, h4⟩, h5⟩ := h
  have hall : ∀ (i : Nat) (o : Oper), ops[i]? = some o → okOp ops p q i o = true := fun i o hi => by
    have := List.all_eq_true.1 h5 i (List.mem_range.2 (Array.getElem?_eq_some_iff.1 hi).1)
    simpa only [hi] using this
  have parts : ∀ (i : Nat) (o : Oper), ops[i]? = some o → _ := fun i o hi => by
    have := hall i o hi
    unfold okOp at this
    simp only [Bool.and_eq_true] at this
    exact this
  refine ⟨Region.noSelect_spec h1, by simpa using h2, ?_, ?_, fun i o hi => ?_, fun i o hi e he => ?_, fun i o hi t ht j oj hj hd => ?_, fun i j o oj t hi hj h6 h7 => ?_⟩
  · cases ho : ops[p]? with
    | none => rw [ho] at h3; simp at h3
    | some o => rw [ho] at h3; exact ⟨o, rfl, by simpa using h3⟩
  · cases ho : ops[q]? with
    | none => rw [ho] at h4; simp at h4
    | some o =>
      rw [ho] at h4
      simp only [Option.map_some, Option.getD_some] at h4
      obtain ⟨e, he, hb⟩ := Array.any_eq_true'.1 h4
      exact ⟨o, rfl, e, he, by simpa using hb⟩
  · simpa using (parts i o hi).1.1.1
  · have := Array.all_eq_true_iff_forall_mem.1 (parts i o hi).1.1.2 e he
    simpa using this
  · have h8 := Array.all_eq_true_iff_forall_mem.1 (parts i o hi).1.2 _ ht
    have h9 := List.all_eq_true.1 h8 j (List.mem_range.2 (Array.getElem?_eq_some_iff.1 hj).1)
    simp only [hj, Bool.or_eq_true, Bool.and_eq_true] at h9
    rcases h9 with h9 | ⟨h9, h10⟩
    · rw [hd] at h9; simp at h9
    · obtain ⟨e, he, hb⟩ := Array.any_eq_true'.1 h9
      refine ⟨⟨e, he, by simpa using hb⟩, fun hjp => ?_⟩
      rw [hjp] at h10
      simpa using h10
  · have h8 := List.all_eq_true.1 (parts i o hi).2 j (List.mem_range.2 (Array.getElem?_eq_some_iff.1 hj).1)
    simp only [hj, Bool.or_eq_true] at h8
    rcases h8 with h8 | h8 | h8
    · simpa using h8
    · rw [h6] at h8; simp at h8
    · rw [h6, h7] at h8; simp at h8
/-- What the walk says of each operation. -/
def Spec (P : Program) (C : Option Value → World → Prop) (p q dp : Nat) (Q : Act → Prop) (l : List Oper) (k : Nat) (a : Act) : Prop :=
    ∃ (vals : Nat → Value) (acts : Nat → Act), acts 0 = a ∧ Q (acts l.length) ∧
      ∀ (j : Nat) (o : Oper), l[j]? = some o → acts (j + 1) = (if k + j = p then acts j else (acts j).put o.dst (vals j)) ∧
        (k + j = p → ∀ w, C none w → ∃ r w', (execOp (acts j).eval o).run P w = .ok (.value r) w' ∧ C (some r) w') ∧
        (k + j ≠ p → k + j = q → ∀ r w, C (some r) w → o.quietAt P ((acts j).put (some dp) r) (C (some r)) w (vals j)) ∧
        (k + j ≠ p → k + j ≠ q → ∀ x w, C x w → o.quietAt P (acts j) (C x) w (vals j))
theorem walk_spec {p q dp : Nat} {Q : Act → Prop} : ∀ (l : List Oper) (k : Nat) (a : Act), walk P C p q dp Q k l a → Spec P C p q dp Q l k a := by
  intro l
  induction l with
  | nil => intro k a h; exact ⟨fun _ => undef, fun _ => a, rfl, h, fun j o hj => by simp at hj⟩
  | cons o rest ih =>
    intro k a h
    unfold walk at h
    have key : ∀ (v : Value) (a' : Act), a' = (if k = p then a else a.put o.dst v) → walk P C p q dp Q (k + 1) rest a' →
        (k = p → ∀ w, C none w → ∃ r w', (execOp a.eval o).run P w = .ok (.value r) w' ∧ C (some r) w') →
        (k ≠ p → k = q → ∀ r w, C (some r) w → o.quietAt P (a.put (some dp) r) (C (some r)) w v) →
        (k ≠ p → k ≠ q → ∀ x w, C x w → o.quietAt P a (C x) w v) → Spec P C p q dp Q (o :: rest) k a := fun v a' ha hw c1 c2 c3 => by
      obtain ⟨vals, acts, e0, hQ, hs⟩ := ih (k + 1) a' hw
      refine ⟨fun j => match j with | 0 => v | j + 1 => vals j, fun j => match j with | 0 => a | j + 1 => acts j, rfl, hQ, fun j oj hj => ?_⟩
      cases j with
      | zero =>
        simp at hj
        subst hj
        refine ⟨?_, c1, c2, c3⟩
        show acts 0 = _
        rw [e0, ha, Nat.add_zero]
      | succ j =>
        have := hs j oj (by simpa using hj)
        rw [show k + 1 + j = k + (j + 1) by omega] at this
        exact this
    by_cases hp : k = p
    · rw [if_pos hp] at h
      exact key undef a (by rw [if_pos hp]) h.2 (fun _ => h.1) (fun e => absurd hp e) (fun e => absurd hp e)
    · rw [if_neg hp] at h
      by_cases hq : k = q
      · rw [if_pos hq] at h
        obtain ⟨v, h1, h2⟩ := h
        exact key v _ (by rw [if_neg hp]) h2 (fun e => absurd e hp) (fun _ _ => h1) (fun _ e => absurd hq e)
      · rw [if_neg hq] at h
        obtain ⟨v, h1, h2⟩ := h
        exact key v _ (by rw [if_neg hp]) h2 (fun e => absurd e hp) (fun _ e => absurd e hq) (fun _ _ => h1)
/-- Where a real run stands: what has come up, the frame, the world. -/
structure At (ops : Array Oper) (C : Option Value → World → Prop) (p dp : Nat) (a0 : Act) (vals : Nat → Value) (listed : Array Bool) (a : Act) (w : World) : Prop where
  size : listed.size = ops.size
  x : ∃ x, C x w ∧ (listed.getD p false = true → ∃ r, x = some r ∧ (dp < a.tmps.size → a.tmps[dp]? = some r)) ∧ (listed.getD p false = false → x = none)
  defers : a.defers = a0.defers
  tmps : a.tmps.size = a0.tmps.size
  old : ∀ t, (∀ (i : Nat) (o : Oper), ops[i]? = some o → o.dst = some t → listed.getD i false = false) → a.tmps[t]? = a0.tmps[t]?
  new : ∀ (i t : Nat) (o : Oper), ops[i]? = some o → o.dst = some t → i ≠ p → listed.getD i false = true → t < a.tmps.size → a.tmps[t]? = some (vals i)
/-- How many have not come up. -/
def left (listed : Array Bool) : Nat := listed.toList.countP (fun b => !b)
theorem countP_set : ∀ (l : List Bool) (i : Nat), l[i]? = some false → (l.set i true).countP (fun b => !b) + 1 = l.countP (fun b => !b)
  | [], i, h => by simp at h
  | b :: r, 0, h => by
    simp at h
    subst h
    simp
  | b :: r, i + 1, h => by
    have := countP_set r i (by simpa using h)
    cases b <;> simp <;> omega
theorem left_set {listed : Array Bool} {i : Nat} (h : listed[i]? = some false) : left (listed.setIfInBounds i true) + 1 = left listed := by
  unfold left
  rw [Array.toList_setIfInBounds]
  exact countP_set _ _ (by simpa using h)
theorem left_zero {listed : Array Bool} (h : left listed = 0) (i : Nat) (hi : i < listed.size) : listed[i]? = some true := by
  unfold left at h
  rw [List.countP_eq_zero] at h
  have := h (listed[i]) (by simp)
  rw [Array.getElem?_eq_getElem hi]
  cases hb : listed[i]
  · rw [hb] at this; simp at this
  · rfl
theorem put_get (a : Act) (d t : Nat) (v : Value) : (a.put (some d) v).tmps[t]? = if t = d ∧ d < a.tmps.size then some v else a.tmps[t]? := by
  show (a.tmps.setIfInBounds d v)[t]? = _
  by_cases h : t = d
  · subst h
    by_cases h2 : t < a.tmps.size
    · rw [if_pos ⟨rfl, h2⟩, Array.getElem?_setIfInBounds_self_of_lt h2]
    · rw [if_neg (fun h => h2 h.2)]
      rw [Array.getElem?_eq_none (by simp; omega), Array.getElem?_eq_none (by omega)]
  · rw [if_neg (fun h' => h h'.1), Array.getElem?_setIfInBounds_ne (fun e => h e.symm)]
theorem put_size (a : Act) (d : Option Tmp) (v : Value) : (a.put d v).tmps.size = a.tmps.size := by
  cases d <;> simp [Act.put]
theorem put_defers (a : Act) (d : Option Tmp) (v : Value) : (a.put d v).defers = a.defers := by cases d <;> rfl
/-- The frames of the walk. -/
structure Ghost (ops : Array Oper) (p : Nat) (a0 : Act) (vals : Nat → Value) (k : Nat) (g : Act) : Prop where
  defers : g.defers = a0.defers
  tmps : g.tmps.size = a0.tmps.size
  old : ∀ t, (∀ (i : Nat) (o : Oper), ops[i]? = some o → o.dst = some t → i < k → i = p) → g.tmps[t]? = a0.tmps[t]?
  new : ∀ (i t : Nat) (o : Oper), ops[i]? = some o → o.dst = some t → i ≠ p → i < k → t < g.tmps.size → g.tmps[t]? = some (vals i)
theorem ghosts {p q dp : Nat} {a0 : Act} (ok : Ok ops p q dp) {vals : Nat → Value} {acts : Nat → Act} (h0 : acts 0 = a0) (hs : ∀ (j : Nat) (o : Oper), ops[j]? = some o → acts (j + 1) = if j = p then acts j else (acts j).put o.dst (vals j)) :
    ∀ k, k ≤ ops.size → Ghost ops p a0 vals k (acts k) := by
  intro k
  induction k with
  | zero => intro _; rw [h0]; exact ⟨rfl, rfl, fun _ _ => rfl, fun _ _ _ _ _ _ h => by omega⟩
  | succ k ih =>
    intro hk
    have g := ih (by omega)
    obtain ⟨o, ho⟩ : ∃ o, ops[k]? = some o := ⟨_, Array.getElem?_eq_getElem (by omega)⟩
    rw [hs k o ho]
    by_cases hp : k = p
    · rw [if_pos hp]
      refine ⟨g.defers, g.tmps, fun t h => g.old t (fun i o' h1 h2 h3 => h i o' h1 h2 (by omega)), fun i t o' h1 h2 h3 h4 h5 => g.new i t o' h1 h2 h3 (by omega) h5⟩
    · rw [if_neg hp]
      refine ⟨by rw [put_defers]; exact g.defers, by rw [put_size]; exact g.tmps, fun t h => ?_, fun i t o' h1 h2 h3 h4 h5 => ?_⟩
      · cases hd : o.dst with
        | none => exact g.old t (fun i o' h1 h2 h3 => h i o' h1 h2 (by omega))
        | some d =>
          rw [put_get, if_neg (fun e => hp (h k o ho (by rw [hd, e.1]) (by omega)))]
          exact g.old t (fun i o' h1 h2 h3 => h i o' h1 h2 (by omega))
      · rw [put_size] at h5
        cases hd : o.dst with
        | none =>
          have : i ≠ k := fun e => by subst e; rw [ho] at h1; cases h1; rw [hd] at h2; cases h2
          exact g.new i t o' h1 h2 h3 (by omega) h5
        | some d =>
          rw [put_get]
          by_cases htd : t = d
          · subst htd
            rw [if_pos ⟨rfl, h5⟩, ok.apart k i o o' t ho h1 hd h2]
          · rw [if_neg (fun e => htd e.1)]
            have : i ≠ k := fun e => by subst e; rw [ho] at h1; cases h1; rw [hd] at h2; cases h2; exact htd rfl
            exact g.new i t o' h1 h2 h3 (by omega) h5
theorem getD_of {l : Array Bool} {i : Nat} {b d : Bool} (h : l[i]? = some b) : l.getD i d = b := by
  rw [Array.getD_eq_getD_getElem?, h]
  rfl
theorem getD_at {l : Array Bool} {i : Nat} (hi : i < l.size) {b d : Bool} (h : l.getD i d = b) : l[i]? = some b := by
  rw [Array.getD_eq_getD_getElem?, Array.getElem?_eq_getElem hi] at h
  rw [Array.getElem?_eq_getElem hi]
  exact congrArg some h
theorem finish {p q dp : Nat} {a0 : Act} (ok : Ok ops p q dp) {vals : Nat → Value} {G : Act} (hG : Ghost ops p a0 vals ops.size G) {Q' : Exit → Act → World → Prop} (hQ : ∀ r w, C (some r) w → Q' .normal (G.put (some dp) r) w)
    {listed : Array Bool} {a : Act} {w : World} (h : At ops C p dp a0 vals listed a w) (hall : ∀ i, i < ops.size → listed[i]? = some true) : Q' .normal a w := by
  obtain ⟨op, hop, hdp⟩ := ok.atP
  have hps := (Array.getElem?_eq_some_iff.1 hop).1
  obtain ⟨x, hx, h1, _⟩ := h.x
  obtain ⟨r, rfl, hr⟩ := h1 (getD_of (hall p hps))
  have e : a = G.put (some dp) r := by
    have et : a.tmps = (G.put (some dp) r).tmps := by
      apply Array.ext_getElem?
      intro t
      rw [put_get]
      by_cases ht : t < a.tmps.size
      · by_cases htd : t = dp
        · subst htd
          rw [if_pos ⟨rfl, by rw [hG.tmps, ← h.tmps]; exact ht⟩, hr ht]
        · rw [if_neg (fun e => htd e.1)]
          by_cases hd : ∃ (i : Nat) (o : Oper), ops[i]? = some o ∧ o.dst = some t
          · obtain ⟨i, o, hi, hd⟩ := hd
            have hip : i ≠ p := fun e => by subst e; rw [hop] at hi; cases hi; rw [hdp] at hd; cases hd; exact htd rfl
            have his := (Array.getElem?_eq_some_iff.1 hi).1
            rw [h.new i t o hi hd hip (getD_of (hall i his)) ht, hG.new i t o hi hd hip his (by rw [hG.tmps, ← h.tmps]; exact ht)]
          · rw [h.old t (fun i o hi hd' => absurd ⟨i, o, hi, hd'⟩ hd), hG.old t (fun i o hi hd' => absurd ⟨i, o, hi, hd'⟩ hd)]
      · rw [if_neg (fun e => ht (by rw [e.1, h.tmps, ← hG.tmps]; exact e.2)), Array.getElem?_eq_none (by omega), Array.getElem?_eq_none (by rw [hG.tmps, ← h.tmps]; omega)]
    have ed : a.defers = (G.put (some dp) r).defers := by rw [put_defers, hG.defers, h.defers]
    cases a
    simp only at et ed
    subst et ed
    rfl
  rw [e]
  exact hQ r w hx
/-- What an operation that may come up now reads is as in the walk. -/
theorem same_eval {p q dp : Nat} {a0 : Act} (ok : Ok ops p q dp) {vals : Nat → Value} {G : Act} {i : Nat} (hG : Ghost ops p a0 vals i G) {listed : Array Bool} {a : Act} {w : World} (h : At ops C p dp a0 vals listed a w)
    {o : Oper} (ho : ops[i]? = some o) (hr : ∀ e ∈ o.after, listed.getD e.on false = true) (y : Operand) (hy : y ∈ o.op.operands) :
    (i ≠ q → a.eval y = G.eval y) ∧ (i = q → ∀ r, (dp < a.tmps.size → a.tmps[dp]? = some r) → a.eval y = (G.put (some dp) r).eval y) := by
  obtain ⟨op, hop, hdp⟩ := ok.atP
  cases y with
  | tmp t =>
    have key : ∀ G' : Act, a.tmps[t]? = G'.tmps[t]? → a.eval (.tmp t) = G'.eval (.tmp t) := fun G' e => by
      show a.tmps.getD t undef = G'.tmps.getD t undef
      rw [Array.getD_eq_getD_getElem?, Array.getD_eq_getD_getElem?, e]
    by_cases ht : t < a.tmps.size
    · by_cases hd : ∃ (j : Nat) (oj : Oper), ops[j]? = some oj ∧ oj.dst = some t
      · obtain ⟨j, oj, hj, hd⟩ := hd
        obtain ⟨⟨e, he, hej⟩, hjp⟩ := ok.looks i o ho t hy j oj hj hd
        have hji := (ok.after i o ho e he).1
        have hl := hr e he
        rw [hej] at hji hl
        by_cases hp : j = p
        · have hiq := hjp hp
          subst hp
          rw [hop] at hj
          cases hj
          rw [hdp] at hd
          cases hd
          refine ⟨fun h' => absurd hiq h', fun _ r hrr => key _ ?_⟩
          rw [put_get, if_pos ⟨rfl, by rw [hG.tmps, ← h.tmps]; exact ht⟩, hrr ht]
        · have e1 : a.tmps[t]? = G.tmps[t]? := by rw [h.new j t oj hj hd hp hl ht, hG.new j t oj hj hd hp hji (by rw [hG.tmps, ← h.tmps]; exact ht)]
          refine ⟨fun _ => key _ e1, fun _ r _ => key _ ?_⟩
          rw [put_get, if_neg (fun e' => hp ?_)]
          · exact e1
          · rw [e'.1] at hd
            exact ok.apart p j op oj dp hop hj hdp hd
      · have e1 : a.tmps[t]? = G.tmps[t]? := by rw [h.old t (fun i o hi hd' => absurd ⟨i, o, hi, hd'⟩ hd), hG.old t (fun i o hi hd' => absurd ⟨i, o, hi, hd'⟩ hd)]
        refine ⟨fun _ => key _ e1, fun _ r _ => key _ ?_⟩
        rw [put_get, if_neg (fun e' => hd ⟨p, op, hop, by rw [e'.1]; exact hdp⟩)]
        exact e1
    · have ht' : a.tmps.size ≤ t := Nat.le_of_not_lt ht
      have e1 : a.tmps[t]? = none := Array.getElem?_eq_none ht'
      refine ⟨fun _ => key _ ?_, fun _ r _ => key _ ?_⟩
      · rw [e1, Array.getElem?_eq_none (by rw [hG.tmps, ← h.tmps]; exact ht')]
      · rw [e1, Array.getElem?_eq_none (by rw [put_size, hG.tmps, ← h.tmps]; exact ht')]
  | const v => exact ⟨fun _ => rfl, fun _ _ _ => rfl⟩
  | global g => exact ⟨fun _ => rfl, fun _ _ _ => rfl⟩
  | func f => exact ⟨fun _ => rfl, fun _ _ _ => rfl⟩
/-- Behind an operation. -/
theorem At.step {p q dp : Nat} {a0 : Act} (ok : Ok ops p q dp) {vals : Nat → Value} {listed : Array Bool} {a : Act} {w w' : World} (h : At ops C p dp a0 vals listed a w) {i : Nat} {o : Oper} (ho : ops[i]? = some o) (hl : listed[i]? = some false)
    (hip : i ≠ p) (hw : ∀ x, C x w → C x w') : At ops C p dp a0 vals (listed.setIfInBounds i true) (a.put o.dst (vals i)) w' := by
  obtain ⟨op, hop, hdp⟩ := ok.atP
  have hil := (Array.getElem?_eq_some_iff.1 hl).1
  have hne : ∀ (t : Nat), o.dst ≠ some t → (a.put o.dst (vals i)).tmps[t]? = a.tmps[t]? := fun t hd => by
    cases hd' : o.dst with
    | none => rfl
    | some d => rw [put_get, if_neg (fun e => hd (by rw [hd', e.1]))]
  obtain ⟨x, hx, h1, h2⟩ := h.x
  refine ⟨by simp [h.size], ⟨x, hw x hx, fun hp => ?_, fun hp => h2 (by rwa [getD_set_ne false hip] at hp)⟩, by rw [put_defers]; exact h.defers, by rw [put_size]; exact h.tmps, fun t ht => ?_, fun j t oj hj hd hjp hlj htl => ?_⟩
  · rw [getD_set_ne false hip] at hp
    obtain ⟨r, e1, e2⟩ := h1 hp
    refine ⟨r, e1, fun hs => ?_⟩
    rw [put_size] at hs
    rw [hne dp (fun e => hip (ok.apart p i op o dp hop ho hdp e)), e2 hs]
  · have hio := ht i o ho
    rw [hne t (fun e => by have := hio e; rw [getD_of (b := true) (by rw [Array.getElem?_setIfInBounds_self_of_lt hil])] at this; cases this)]
    refine h.old t (fun j oj hj hd => ?_)
    have := ht j oj hj hd
    by_cases hij : i = j
    · subst hij; exact getD_of hl
    · rwa [getD_set_ne false hij] at this
  · rw [put_size] at htl
    by_cases hij : i = j
    · subst hij
      rw [ho] at hj
      cases hj
      rw [hd, put_get, if_pos ⟨rfl, htl⟩]
    · rw [getD_set_ne false hij] at hlj
      rw [hne t (fun e => hij (ok.apart j i oj o t hj ho hd e))]
      exact h.new j t oj hj hd hjp hlj htl
theorem At.stepP {p q dp : Nat} {a0 : Act} (ok : Ok ops p q dp) {vals : Nat → Value} {listed : Array Bool} {a : Act} {w w' : World} (h : At ops C p dp a0 vals listed a w) {o : Oper} (ho : ops[p]? = some o) (hl : listed[p]? = some false) {r : Value}
    (hw : C (some r) w') : At ops C p dp a0 vals (listed.setIfInBounds p true) (a.put o.dst r) w' := by
  obtain ⟨op, hop, hdp⟩ := ok.atP
  rw [ho] at hop
  cases hop
  have hil := (Array.getElem?_eq_some_iff.1 hl).1
  rw [hdp]
  refine ⟨by simp [h.size], ⟨some r, hw, fun _ => ⟨r, rfl, fun hs => ?_⟩, fun hp => ?_⟩, by rw [put_defers]; exact h.defers, by rw [put_size]; exact h.tmps, fun t ht => ?_, fun j t oj hj hd hjp hlj htl => ?_⟩
  · rw [put_size] at hs
    rw [put_get, if_pos ⟨rfl, hs⟩]
  · rw [getD_of (b := true) (by rw [Array.getElem?_setIfInBounds_self_of_lt hil])] at hp
    cases hp
  · have hio := ht p o ho
    rw [put_get, if_neg (fun e => by have := hio (by rw [e.1]; exact hdp); rw [getD_of (b := true) (by rw [Array.getElem?_setIfInBounds_self_of_lt hil])] at this; cases this)]
    refine h.old t (fun j oj hj hd => ?_)
    have := ht j oj hj hd
    by_cases hij : p = j
    · subst hij; exact getD_of hl
    · rwa [getD_set_ne false hij] at this
  · rw [put_size] at htl
    rw [getD_set_ne false (fun e => hjp e.symm)] at hlj
    rw [put_get, if_neg (fun e => hjp ?_)]
    · exact h.new j t oj hj hd hjp hlj htl
    · rw [e.1] at hd
      exact ok.apart p j o oj dp ho hj hdp hd
theorem any_of {p q dp : Nat} {a0 : Act} (ok : Ok ops p q dp) {vals : Nat → Value} {acts : Nat → Act} (hG : ∀ k, k ≤ ops.size → Ghost ops p a0 vals k (acts k)) {Q' : Exit → Act → World → Prop} (hQ : ∀ r w, C (some r) w → Q' .normal ((acts ops.size).put (some dp) r) w)
    (hs : ∀ (j : Nat) (o : Oper), ops[j]? = some o → (j = p → ∀ w, C none w → ∃ r w', (execOp (acts j).eval o).run P w = .ok (.value r) w' ∧ C (some r) w') ∧
        (j ≠ p → j = q → ∀ r w, C (some r) w → o.quietAt P ((acts j).put (some dp) r) (C (some r)) w (vals j)) ∧
        (j ≠ p → j ≠ q → ∀ x w, C x w → o.quietAt P (acts j) (C x) w (vals j))) :
    ∀ (fuel : Nat) (listed : Array Bool) (a : Act) (w : World), left listed ≤ fuel → At ops C p dp a0 vals listed a w → wpAny P .any ops Q' fuel listed a w := by
  intro fuel
  induction fuel with
  | zero =>
    intro listed a w hf h
    have hall : ∀ i, i < ops.size → listed[i]? = some true := fun i hi => left_zero (by omega) i (by rw [h.size]; exact hi)
    refine ⟨?_, finish ok (hG _ (Nat.le_refl _)) hQ h hall⟩
    apply List.eq_nil_iff_forall_not_mem.2
    intro j hj
    obtain ⟨h1, o, ho, _⟩ := mem_ready.1 hj
    rw [getD_of (hall j (Array.getElem?_eq_some_iff.1 ho).1)] at h1
    cases h1
  | succ fuel ih =>
    intro listed a w hf h
    refine ⟨fun h0 => ?_, fun i hi => ?_⟩
    · refine finish ok (hG _ (Nat.le_refl _)) hQ h (fun i => ?_)
      induction i using Nat.strongRecOn with
      | ind i ihi =>
        intro hi
        obtain ⟨o, ho⟩ : ∃ o, ops[i]? = some o := ⟨_, Array.getElem?_eq_getElem hi⟩
        have hil : i < listed.size := by rw [h.size]; exact hi
        cases hb : listed[i] with
        | true => rw [Array.getElem?_eq_getElem hil, hb]
        | false =>
          have : i ∈ Region.ready .any ops listed := mem_ready.2 ⟨getD_of (by rw [Array.getElem?_eq_getElem hil, hb]), o, ho, fun e he _ => by
            have := (ok.after i o ho e he).1
            exact getD_of (ihi e.on this (by omega))⟩
          rw [h0] at this
          cases this
    · obtain ⟨h1, o, ho, hdeps⟩ := mem_ready.1 hi
      have his := (Array.getElem?_eq_some_iff.1 ho).1
      have hl : listed[i]? = some false := getD_at (by rw [h.size]; exact his) h1
      have hr : ∀ e ∈ o.after, listed.getD e.on false = true := fun e he => hdeps e he (ok.after i o ho e he).2
      have hsel := fun cs b => ok.sel i o cs b ho
      have hw : Region.wanted o (yielded ops a.tmps) = true := by
        unfold Region.wanted
        rw [ok.guard i o ho]
      have hlf : left (listed.setIfInBounds i true) ≤ fuel := by have := left_set hl; omega
      have hev := same_eval ok (hG i (by omega)) h ho hr
      unfold wpOp
      simp only [ho, hw, if_true]
      refine .inl ?_
      obtain ⟨c1, c2, c3⟩ := hs i o ho
      by_cases hip : i = p
      · subst hip
        obtain ⟨x, hx, _, h2⟩ := h.x
        have := h2 (getD_of hl)
        subst this
        obtain ⟨r, w', hrun, hw'⟩ := c1 rfl w hx
        have e : execOp a.eval o = execOp (acts i).eval o := execOp_congr o hsel (fun y hy => (hev y hy).1 ok.ne)
        unfold Oper.wp
        rw [e, hrun]
        exact ih _ _ _ hlf (h.stepP ok ho hl hw')
      · obtain ⟨x, hx, hx1, hx2⟩ := h.x
        have hquiet : ∀ w1, C x w1 → o.quietAt P a (C x) w1 (vals i) := by
          by_cases hiq : i = q
          · obtain ⟨oq, hoq, e, he, hep⟩ := ok.atQ
            rw [← hiq, ho] at hoq
            cases hoq
            have hlp := hr e he
            rw [hep] at hlp
            obtain ⟨r, rfl, hrr⟩ := hx1 hlp
            intro w1 hw1
            have e2 : execOp a.eval o = execOp ((acts i).put (some dp) r).eval o := execOp_congr o hsel (fun y hy => (hev y hy).2 hiq r hrr)
            have := c2 hip hiq r w1 hw1
            unfold Oper.quietAt at this ⊢
            rwa [e2]
          · intro w1 hw1
            have e2 : execOp a.eval o = execOp (acts i).eval o := execOp_congr o hsel (fun y hy => (hev y hy).1 hiq)
            have := c3 hip hiq x w1 hw1
            unfold Oper.quietAt at this ⊢
            rwa [e2]
        refine Oper.wp_of_quiet (C := C x) (K := fun a' => a' = a.put o.dst (vals i)) hx (fun a' w' hw' ha' => ?_) ⟨vals i, hquiet, rfl⟩
        rw [ha']
        refine ih _ _ _ hlf ?_
        have hst : At ops (fun y w'' => C y w'' ∧ y = x) p dp a0 vals listed a w := ⟨h.size, ⟨x, ⟨hx, rfl⟩, hx1, hx2⟩, h.defers, h.tmps, h.old, h.new⟩
        have hst2 := At.step (C := fun y w'' => C y w'' ∧ y = x) (w' := w') ok hst ho hl hip (fun y hy => ⟨by rw [hy.2]; exact hw', hy.2⟩)
        obtain ⟨y, hy, hy1, hy2⟩ := hst2.x
        exact ⟨hst2.size, ⟨y, hy.1, hy1, hy2⟩, hst2.defers, hst2.tmps, hst2.old, hst2.new⟩
/-- One walk in the order of the text. -/
theorem wp_region_lays {id : Nat} {Q : Exit → Act → World → Prop} {a : Act} {w : World} {l : List Oper} (p q dp : Nat) (C : Option Value → World → Prop) (hm : P.follows .mixedOrders = true) (hB : okB l.toArray p q dp = true) (hC : C none w.drew)
    (h : walk P C p q dp (fun a' => ∀ r w', C (some r) w' → Q .normal (a'.put (some dp) r) w') 0 l a) : (Code.region id l.toArray true).wp P Q a w := by
  have ok := ok_of _ _ _ _ hB
  obtain ⟨vals, acts, e0, hQ, hs⟩ := walk_spec l 0 a h
  have hg := ghosts (a0 := a) ok e0 (fun j o hj => by have := (hs j o (by simpa using hj)).1; rwa [Nat.zero_add] at this)
  refine wp_region_any hm ?_
  refine any_of (C := C) ok hg hQ (fun j o hj => ?_) _ _ _ _ (Nat.le_trans (List.countP_le_length) (by simp)) ?_
  · have := (hs j o (by simpa using hj)).2
    rwa [Nat.zero_add] at this
  · refine ⟨by simp, ⟨none, hC, fun hp => ?_, fun _ => rfl⟩, rfl, rfl, fun _ _ => rfl, fun i t o hi _ _ hl _ => ?_⟩
    · obtain ⟨op, hop, _⟩ := ok.atP
      have := (Array.getElem?_eq_some_iff.1 hop).1
      rw [getD_of (b := false) (by rw [Array.getElem?_replicate, if_pos this])] at hp
      cases hp
    · have := (Array.getElem?_eq_some_iff.1 hi).1
      rw [getD_of (b := false) (by rw [Array.getElem?_replicate, if_pos this])] at hl
      cases hl
theorem walk_next {p q dp k : Nat} {Q : Act → Prop} {o : Oper} {rest : List Oper} {a : Act} (v : Value) (hp : k ≠ p) (hq : k ≠ q) (h : ∀ x w, C x w → o.quietAt P a (C x) w v) (hK : walk P C p q dp Q (k + 1) rest (a.put o.dst v)) : walk P C p q dp Q k (o :: rest) a := by
  unfold walk
  rw [if_neg hp, if_neg hq]
  exact ⟨v, h, hK⟩
theorem walk_lays {p q dp : Nat} {Q : Act → Prop} {o : Oper} {rest : List Oper} {a : Act} (h : ∀ w, C none w → ∃ r w', (execOp a.eval o).run P w = .ok (.value r) w' ∧ C (some r) w') (hK : walk P C p q dp Q (p + 1) rest a) : walk P C p q dp Q p (o :: rest) a := by
  unfold walk
  rw [if_pos rfl]
  exact ⟨h, hK⟩
theorem walk_reads {p q dp : Nat} {Q : Act → Prop} {o : Oper} {rest : List Oper} {a : Act} (v : Value) (hp : q ≠ p) (h : ∀ r w, C (some r) w → o.quietAt P (a.put (some dp) r) (C (some r)) w v) (hK : walk P C p q dp Q (q + 1) rest (a.put o.dst v)) : walk P C p q dp Q q (o :: rest) a := by
  unfold walk
  rw [if_neg hp, if_pos rfl]
  exact ⟨v, h, hK⟩
end Go.Proofs.Ytdlmkdldmiiaiaa.Loo
