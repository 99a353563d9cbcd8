/- Regions that draw their order: whatever the order, what the text's order gives. -/
import Derived.Test.YtdchhhedpipeiaaEvP
import Derived.Orders
set_option linter.unusedVariables false
set_option linter.unusedSimpArgs false
namespace Go.Ev
open Go.RowKit

variable {P : Program} {E : Env} {ops : Array Oper} {base : Nat} {s0 : St}

/-! ### The run in the order of the text -/
noncomputable def textSt (E : Env) (ops : Array Oper) (base : Nat) (s0 : St) : Nat → St
  | 0 => s0
  | i + 1 => match ops[i]? with
    | some o => match stepG E ops (base + 4 * i) o (textSt E ops base s0 i) with
      | some (v, st) => (textSt E ops base s0 i).after o.dst v st
      | none => textSt E ops base s0 i
    | none => textSt E ops base s0 i
/-- What stands ahead of each, of those ahead of a place. -/
def befs (ops : Array Oper) : Nat → List (Nat × Nat)
  | 0 => []
  | i + 1 => match ops[i]? with
    | some o => (i, befOf o (befs ops i)) :: befs ops i
    | none => befs ops i
noncomputable def rowsAt (E : Env) (ops : Array Oper) (base : Nat) (s0 : St) : Nat → List Row
  | 0 => []
  | i + 1 => match ops[i]? with
    | some o => rowOf E ops i o (textSt E ops base s0 i) (befs ops i) :: rowsAt E ops base s0 i
    | none => rowsAt E ops base s0 i
/-- The row of an operation. -/
noncomputable def rw_ (E : Env) (ops : Array Oper) (base : Nat) (s0 : St) (i : Nat) (o : Oper) : Row := rowOf E ops i o (textSt E ops base s0 i) (befs ops i)

/-- The text's run comes to an end, and each row is right. -/
structure TextOk (E : Env) (ops : Array Oper) (base : Nat) (s0 : St) : Prop where
  step : ∀ j o, ops[j]? = some o → ∃ v st, stepG E ops (base + 4 * j) o (textSt E ops base s0 j) = some (v, st)
  row : ∀ j o, ops[j]? = some o → rowOk base (rw_ E ops base s0 j o) (rowsAt E ops base s0 j) = true
  okx : ∀ f X, E.ext f = some X → ExtLocal X

theorem text_of_run {R : Type} {K : St → Option R} {r : R} : ∀ (l : List Oper) (i : Nat), ops.toList.drop i = l → runOpsD E ops base i l (textSt E ops base s0 i) (befs ops i) (rowsAt E ops base s0 i) K = some r →
    (∀ j o, i ≤ j → ops[j]? = some o → (∃ v st, stepG E ops (base + 4 * j) o (textSt E ops base s0 j) = some (v, st)) ∧ rowOk base (rw_ E ops base s0 j o) (rowsAt E ops base s0 j) = true) ∧ K (textSt E ops base s0 (max i ops.size)) = some r
  | [], i, hl, he => by
    have hi : ops.size ≤ i := by simpa using hl
    refine ⟨fun j o hj ho => ?_, ?_⟩
    · have := (Array.getElem?_eq_some_iff.1 ho).1
      omega
    · rw [Nat.max_eq_left hi]
      exact he
  | o :: rest, i, hl, he => by
    have hoi : ops[i]? = some o := by
      have : (ops.toList.drop i)[0]? = some o := by rw [hl]; rfl
      simpa [List.getElem?_drop] using this
    have hlt := (Array.getElem?_eq_some_iff.1 hoi).1
    have hl' : ops.toList.drop (i + 1) = rest := by
      rw [← List.drop_drop, hl]
      rfl
    simp only [runOpsD] at he
    split at he
    · rename_i hrow
      obtain ⟨v, st, h1, h2⟩ := runG_step he
      have ht : textSt E ops base s0 (i + 1) = (textSt E ops base s0 i).after o.dst v st := by simp [textSt, hoi, h1]
      have hr : rowsAt E ops base s0 (i + 1) = rowOf E ops i o (textSt E ops base s0 i) (befs ops i) :: rowsAt E ops base s0 i := by simp [rowsAt, hoi]
      have hb : befs ops (i + 1) = (i, befOf o (befs ops i)) :: befs ops i := by simp [befs, hoi]
      rw [← ht, ← hr, ← hb] at h2
      obtain ⟨g1, g2⟩ := text_of_run rest (i + 1) hl' h2
      refine ⟨fun j p hj hp => ?_, ?_⟩
      · rcases Nat.eq_or_lt_of_le hj with rfl | hj'
        · rw [hoi] at hp
          injection hp with hp
          subst hp
          exact ⟨⟨v, st, h1⟩, hrow⟩
        · exact g1 j p hj' hp
      · rw [show max i ops.size = max (i + 1) ops.size by omega]
        exact g2
    · cases he

section text

theorem textSt_succ (T : TextOk E ops base s0) {i : Nat} {o : Oper} (ho : ops[i]? = some o) {v : Slot} {st : Store} (he : stepG E ops (base + 4 * i) o (textSt E ops base s0 i) = some (v, st)) : textSt E ops base s0 (i + 1) = (textSt E ops base s0 i).after o.dst v st := by
  simp [textSt, ho, he]
theorem rowsAt_mem {j : Nat} : ∀ {i : Nat} {x : Row}, x ∈ rowsAt E ops base s0 i → ∃ j o, j < i ∧ ops[j]? = some o ∧ x = rw_ E ops base s0 j o
  | 0, x, h => by cases h
  | i + 1, x, h => by
    unfold rowsAt at h
    split at h
    · rename_i o ho
      rcases List.mem_cons.1 h with rfl | h
      · exact ⟨i, o, by omega, ho, rfl⟩
      · obtain ⟨j, p, h1, h2⟩ := rowsAt_mem (j := j) h
        exact ⟨j, p, by omega, h2⟩
    · obtain ⟨j, p, h1, h2⟩ := rowsAt_mem (j := j) h
      exact ⟨j, p, by omega, h2⟩
theorem mem_rowsAt {j : Nat} {o : Oper} (ho : ops[j]? = some o) : ∀ {i : Nat}, j < i → rw_ E ops base s0 j o ∈ rowsAt E ops base s0 i
  | 0, h => by omega
  | i + 1, h => by
    unfold rowsAt
    by_cases hj : j = i
    · subst hj
      rw [ho]
      exact List.mem_cons_self ..
    · have := mem_rowsAt ho (i := i) (by omega)
      split
      · exact List.mem_cons_of_mem _ this
      · exact this

/-- The text's own edges. -/
def Closed (ops : Array Oper) (X : Nat → Prop) : Prop := ∀ j o, ops[j]? = some o → X j → ∀ e ∈ edges o, X e

theorem hasBit_eq (m i : Nat) : hasBit m i = m.testBit i := by
  unfold hasBit Nat.testBit
  have e1 : Nat.land (Nat.shiftRight m i) 1 = 1 &&& m >>> i := by
    show (m >>> i) &&& 1 = _
    rw [Nat.and_comm]
  rw [e1]
  cases h : (1 &&& m >>> i) with
  | zero => rfl
  | succ n => rfl
theorem bitOf_test (e j : Nat) : (bitOf e).testBit j = decide (e = j) := by
  show ((1 <<< e : Nat)).testBit j = _
  rw [Nat.one_shiftLeft, Nat.testBit_two_pow]
theorem befFind_mem {e : Nat} : ∀ {b : List (Nat × Nat)} {j : Nat}, (befFind e b).testBit j = true → ∃ p ∈ b, p.1 = e ∧ p.2.testBit j = true
  | [], j, h => by simp [befFind] at h
  | p :: r, j, h => by
    simp only [befFind] at h
    cases hb : Nat.beq p.1 e with
    | true =>
      rw [hb] at h
      exact ⟨p, List.mem_cons_self, Nat.eq_of_beq_eq_true hb, h⟩
    | false =>
      rw [hb] at h
      obtain ⟨q, h1, h2⟩ := befFind_mem h
      exact ⟨q, List.mem_cons_of_mem _ h1, h2⟩
theorem befEdges_mem {b : List (Nat × Nat)} : ∀ {l : List Nat} {j : Nat}, (befEdges b l).testBit j = true ↔ ∃ e ∈ l, e = j ∨ (befFind e b).testBit j = true
  | [], j => by simp [befEdges]
  | e :: r, j => by
    show ((bitOf e ||| befFind e b) ||| befEdges b r).testBit j = true ↔ _
    rw [Nat.testBit_or, Nat.testBit_or, Bool.or_eq_true, Bool.or_eq_true, befEdges_mem, bitOf_test, decide_eq_true_eq]
    simp
theorem befs_mem {i : Nat} {p : Nat × Nat} : p ∈ befs ops i → ∃ o, p.1 < i ∧ ops[p.1]? = some o ∧ p.2 = befOf o (befs ops p.1) := by
  induction i with
  | zero => intro h; cases h
  | succ i ih =>
    intro h
    unfold befs at h
    split at h
    · rename_i o ho
      rcases List.mem_cons.1 h with rfl | h
      · exact ⟨o, Nat.lt_succ_self _, ho, rfl⟩
      · obtain ⟨o', h1, h2⟩ := ih h
        exact ⟨o', by omega, h2⟩
    · obtain ⟨o', h1, h2⟩ := ih h
      exact ⟨o', by omega, h2⟩

theorem row_facts (T : TextOk E ops base s0) {i : Nat} {o : Oper} (ho : ops[i]? = some o) : (∀ j, (rw_ E ops base s0 i o).before.testBit j = true → j < i) ∧ (∀ k ∈ touch o (textSt E ops base s0 i), k < base ∨ (rw_ E ops base s0 i o).before.testBit ((k - base) / 4) = true) ∧
    (∀ j p, j < i → ops[j]? = some p → (rw_ E ops base s0 i o).before.testBit j = true ∨ apart (rw_ E ops base s0 j p) (rw_ E ops base s0 i o) = true) := by
  have h := T.row i o ho
  simp only [rowOk, Bool.and_eq_true, List.all_eq_true, Bool.or_eq_true, decide_eq_true_eq, hasBit_eq, Nat.ble_eq] at h
  obtain ⟨⟨h1, h2⟩, h3⟩ := h
  refine ⟨fun j hj => ?_, h2, fun j p hj hp => h3 _ (mem_rowsAt hp hj)⟩
  have hge := Nat.ge_two_pow_of_testBit hj
  have h1 : (rw_ E ops base s0 i o).before + 1 ≤ 2 ^ i := h1
  exact (Nat.pow_lt_pow_iff_right (by omega)).1 (Nat.lt_of_le_of_lt hge h1)

theorem before_closed (T : TextOk E ops base s0) {X : Nat → Prop} (hX : Closed ops X) : ∀ (i : Nat) (o : Oper), ops[i]? = some o → (∀ e ∈ edges o, X e) → ∀ j, (rw_ E ops base s0 i o).before.testBit j = true → X j := by
  intro i
  induction i using Nat.strongRecOn with
  | _ i ih =>
    intro o ho he j hj
    obtain ⟨e, h1, h2⟩ := befEdges_mem.1 (show (befEdges (befs ops i) (edges o)).testBit j = true from hj)
    rcases h2 with rfl | h3
    · exact he _ h1
    · obtain ⟨p, g1, g2, g3⟩ := befFind_mem h3
      obtain ⟨p', k1, k2, k3⟩ := befs_mem g1
      rw [g2] at k1 k2 k3
      rw [k3] at g3
      exact ih _ k1 p' k2 (hX _ p' k2 (he _ h1)) j g3

/-- It may write the key. -/
def Mod (E : Env) (ops : Array Oper) (base : Nat) (s0 : St) (j k : Nat) : Prop := ∃ o, ops[j]? = some o ∧ (k ∈ wkeys E o (textSt E ops base s0 j) ∨ (base + 4 * j ≤ k ∧ k < base + 4 * j + 4))
def Dst (ops : Array Oper) (j t : Nat) : Prop := ∃ o, ops[j]? = some o ∧ o.dst = some t
/-- A value hangs on the last of those that are in X. -/
def Last {α : Type} (X : Nat → Prop) (M : Nat → Prop) (first : α) (at_ : Nat → α) (x : α) : Prop :=
  ((∀ j, X j → ¬ M j) ∧ x = first) ∨ ∃ j, X j ∧ M j ∧ (∀ j', X j' → M j' → j' ≤ j) ∧ x = at_ j

theorem Last.same {α : Type} {X Y M : Nat → Prop} {first : α} {at_ : Nat → α} {x y : α} (h : Last X M first at_ x) (h' : Last Y M first at_ y) (hXY : ∀ j, M j → (X j ↔ Y j)) : x = y := by
  rcases h with ⟨h1, rfl⟩ | ⟨j, h1, h2, h3, rfl⟩ <;> rcases h' with ⟨g1, rfl⟩ | ⟨i, g1, g2, g3, rfl⟩
  · rfl
  · exact absurd g2 (h1 i ((hXY i g2).2 g1))
  · exact absurd h2 (g1 j ((hXY j h2).1 h1))
  · have e1 := h3 i ((hXY i g2).2 g1) g2
    have e2 := g3 j ((hXY j h2).1 h1) h2
    rw [Nat.le_antisymm e1 e2]

theorem text_key (T : TextOk E ops base s0) (k : Nat) : ∀ i, i ≤ ops.size → Last (· < i) (fun j => Mod E ops base s0 j k) (s0.st.get k) (fun j => (textSt E ops base s0 (j + 1)).st.get k) ((textSt E ops base s0 i).st.get k)
  | 0, _ => .inl ⟨fun j hj => by omega, rfl⟩
  | i + 1, hi => by
    have hoi : ops[i]? = some ops[i] := Array.getElem?_eq_getElem (by omega)
    by_cases hm : Mod E ops base s0 i k
    · exact .inr ⟨i, by omega, hm, fun j' h _ => by omega, rfl⟩
    · obtain ⟨v, st, he⟩ := T.step i _ hoi
      have ht := textSt_succ T hoi he
      have hk : (textSt E ops base s0 (i + 1)).st.get k = (textSt E ops base s0 i).st.get k := by
        rw [ht]
        have : ((textSt E ops base s0 i).after ops[i].dst v st).st = st := by cases ops[i].dst <;> rfl
        rw [this]
        refine stepG_frame T.okx he ?_ fun ht' => hm ⟨_, hoi, .inl ht'⟩
        by_cases h1 : k < base + 4 * i
        · exact .inl h1
        · by_cases h2 : base + 4 * i + 4 ≤ k
          · exact .inr h2
          · exact absurd ⟨_, hoi, .inr ⟨by omega, by omega⟩⟩ hm
      rw [hk]
      rcases text_key T k i (by omega) with ⟨h1, h2⟩ | ⟨j, h1, h2, h3, h4⟩
      · refine .inl ⟨fun j hj hmj => ?_, h2⟩
        rcases Nat.lt_succ_iff_lt_or_eq.1 hj with hj | rfl
        · exact h1 j hj hmj
        · exact hm hmj
      · refine .inr ⟨j, by omega, h2, fun j' hj' hm' => ?_, h4⟩
        rcases Nat.lt_succ_iff_lt_or_eq.1 hj' with hj' | rfl
        · exact h3 j' hj' hm'
        · exact absurd hm' hm

theorem after_tmps (s : St) (d : Option Tmp) (v : Slot) (st : Store) : (s.after d v st).tmps = (match d with | some t => s.tmps.set t v | none => s.tmps) := by cases d <;> rfl
theorem text_len (T : TextOk E ops base s0) : ∀ i, (textSt E ops base s0 i).tmps.length = s0.tmps.length
  | 0 => rfl
  | i + 1 => by
    cases ho : ops[i]? with
    | none => simp only [textSt, ho]; exact text_len T i
    | some o =>
      obtain ⟨v, st, he⟩ := T.step i o ho
      rw [textSt_succ T ho he, after_tmps, ← text_len T i]
      cases o.dst <;> simp
theorem text_next (T : TextOk E ops base s0) : ∀ i, (textSt E ops base s0 i).next = s0.next
  | 0 => rfl
  | i + 1 => by
    cases ho : ops[i]? with
    | none => simp only [textSt, ho]; exact text_next T i
    | some o =>
      obtain ⟨v, st, he⟩ := T.step i o ho
      rw [textSt_succ T ho he, after_next, text_next T i]
theorem text_tmp (T : TextOk E ops base s0) (t : Nat) : ∀ i, i ≤ ops.size → Last (· < i) (fun j => Dst ops j t) (s0.tmps[t]?) (fun j => (textSt E ops base s0 (j + 1)).tmps[t]?) ((textSt E ops base s0 i).tmps[t]?)
  | 0, _ => .inl ⟨fun j hj => by omega, rfl⟩
  | i + 1, hi => by
    have hoi : ops[i]? = some ops[i] := Array.getElem?_eq_getElem (by omega)
    by_cases hm : Dst ops i t
    · exact .inr ⟨i, by omega, hm, fun j' h _ => by omega, rfl⟩
    · obtain ⟨v, st, he⟩ := T.step i _ hoi
      have ht := textSt_succ T hoi he
      have hk : (textSt E ops base s0 (i + 1)).tmps[t]? = (textSt E ops base s0 i).tmps[t]? := by
        rw [ht, after_tmps]
        cases hd : ops[i].dst with
        | none => rfl
        | some d => exact List.getElem?_set_ne fun e => hm ⟨_, hoi, by rw [hd, e]⟩
      rw [hk]
      rcases text_tmp T t i (by omega) with ⟨h1, h2⟩ | ⟨j, h1, h2, h3, h4⟩
      · refine .inl ⟨fun j hj hmj => ?_, h2⟩
        rcases Nat.lt_succ_iff_lt_or_eq.1 hj with hj | rfl
        · exact h1 j hj hmj
        · exact hm hmj
      · refine .inr ⟨j, by omega, h2, fun j' hj' hm' => ?_, h4⟩
        rcases Nat.lt_succ_iff_lt_or_eq.1 hj' with hj' | rfl
        · exact h3 j' hj' hm'
        · exact absurd hm' hm

/-! ### What is touched by an operation is written, in whatever order, by the same ones ahead of it -/
theorem key_ahead (T : TextOk E ops base s0) {X : Nat → Prop} (hX : Closed ops X) {i : Nat} {o : Oper} (ho : ops[i]? = some o) (hi : ¬ X i) (he : ∀ e ∈ edges o, X e) {k : Nat} (hk : k ∈ touch o (textSt E ops base s0 i) ∨ (base + 4 * i ≤ k ∧ k < base + 4 * i + 4)) {j : Nat} (hm : Mod E ops base s0 j k) (hne : j ≠ i) : X j ↔ j < i := by
  obtain ⟨p, hp, hm⟩ := hm
  obtain ⟨a1, a2, a3⟩ := row_facts T ho
  obtain ⟨b1, b2, b3⟩ := row_facts T hp
  have hbi := before_closed T hX i o ho he
  have hbj : X j → ∀ q, (rw_ E ops base s0 j p).before.testBit q = true → X q := fun hj => before_closed T hX j p hp (hX j p hp hj)
  have hdis : ∀ x y : Row, apart x y = true → (∀ k ∈ x.wr, k ∉ y.touch) ∧ ∀ k ∈ y.wr, k ∉ x.touch := fun x y ha => by
    simp only [apart, Bool.and_eq_true, disjoint, List.all_eq_true, Bool.not_eq_true', List.contains_eq_mem, decide_eq_false_iff_not] at ha
    exact ha.2
  rcases hm with hkw | ⟨g1, g2⟩
  · have hkj := wkeys_touch hkw
    rcases hk with hk | ⟨g1, g2⟩
    · rcases Nat.lt_or_gt_of_ne hne with hlt | hgt
      · rcases a3 j p hlt hp with h' | h'
        · exact ⟨fun _ => hlt, fun _ => hbi _ h'⟩
        · exact absurd hk ((hdis _ _ h').1 k hkw)
      · rcases b3 i o hgt ho with h' | h'
        · exact ⟨fun hj => absurd (hbj hj _ h') hi, fun h => by omega⟩
        · exact absurd hk ((hdis _ _ h').2 k hkw)
    · rcases b2 k hkj with h' | h'
      · omega
      · have hq : (k - base) / 4 = i := by omega
        rw [hq] at h'
        have := b1 _ h'
        exact ⟨fun hj => absurd (hbj hj _ h') hi, fun h => by omega⟩
  · rcases hk with hk | ⟨g3, g4⟩
    · rcases a2 k hk with h' | h'
      · omega
      · have hq : (k - base) / 4 = j := by omega
        rw [hq] at h'
        exact ⟨fun _ => a1 _ h', fun _ => hbi _ h'⟩
    · omega

theorem tmp_ahead (T : TextOk E ops base s0) {X : Nat → Prop} (hX : Closed ops X) {i : Nat} {o : Oper} (ho : ops[i]? = some o) (hi : ¬ X i) (he : ∀ e ∈ edges o, X e) {t : Nat} (ht : t ∈ looks ops o ∨ o.dst = some t) {j : Nat} (hm : Dst ops j t) (hne : j ≠ i) : X j ↔ j < i := by
  obtain ⟨p, hp, hm⟩ := hm
  obtain ⟨a1, a2, a3⟩ := row_facts T ho
  obtain ⟨b1, b2, b3⟩ := row_facts T hp
  have hbi := before_closed T hX i o ho he
  have hbj : X j → ∀ q, (rw_ E ops base s0 j p).before.testBit q = true → X q := fun hj => before_closed T hX j p hp (hX j p hp hj)
  rcases Nat.lt_or_gt_of_ne hne with hlt | hgt
  · rcases a3 j p hlt hp with h' | h'
    · exact ⟨fun _ => hlt, fun _ => hbi _ h'⟩
    · exfalso
      simp only [apart, rw_, rowOf, hm, Bool.and_eq_true, Bool.not_eq_true', beq_eq_false_iff_ne, ne_eq, List.contains_eq_mem, decide_eq_false_iff_not] at h'
      rcases ht with ht | ht
      · exact h'.1.1.1 ht
      · exact h'.1.1.2 ht
  · rcases b3 i o hgt ho with h' | h'
    · exact ⟨fun hj => absurd (hbj hj _ h') hi, fun h => by omega⟩
    · exfalso
      simp only [apart, rw_, rowOf, hm, Bool.and_eq_true, Bool.not_eq_true', beq_eq_false_iff_ne, ne_eq, List.contains_eq_mem, decide_eq_false_iff_not] at h'
      rcases ht with ht | ht
      · exact h'.1.2 ht
      · rw [ht] at h'
        simp at h'
end text
end Go.Ev
