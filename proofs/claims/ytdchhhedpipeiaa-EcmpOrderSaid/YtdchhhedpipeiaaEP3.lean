/- Plain: the document's own answer to those that share. -/
import Derived.Test.YtdchhhedpipeiaaEP2
set_option linter.unusedVariables false
set_option linter.unusedSimpArgs false
namespace BE
open Go Go.Ev
variable {l : List T41} {ps : List Int}

theorem rLeft_inner (hf : ∀ a ∈ l, Fit a) (hin : In l ps) (hlen : ps.length < 1000000) (a1 s : Int) {i : Nat} (hi : i < ps.length) (out : List Int) (hout : out.length < 1000000) (k11 k7 : Int × List Int → Option (List Int × Unit)) :
    rLeft.l15 worse.F FU l a1 s ps (i : Int) out k11 k7 FU (false, 0) = bif ps.any fun k => bt (at_ l (ps.getD i 0)) (at_ l k) s then k11 (((i + 1 : Nat) : Int), out) else k11 (((i + 1 : Nat) : Int), out ++ [ps.getD i 0]) := by
  have hn := hin _ (getD_mem hi 0)
  unfold rLeft.l15
  rw [iterN_eq (F := fun t : Bool × Int => bif t.1 || (ps.drop t.2.toNat).any fun k => bt (at_ l (ps.getD i 0)) (at_ l k) s then k11 (((i + 1 : Nat) : Int), out) else k11 (((i + 1 : Nat) : Int), out ++ [ps.getD i 0]))
    (fun t : Bool × Int => ∃ j : Nat, t.2 = (j : Int) ∧ j ≤ ps.length) (fun t : Bool × Int => ps.length - t.2.toNat)]
  · rfl
  · rintro ⟨g, idx⟩ k ⟨j, hj, hle⟩ hk
    have hj : idx = (j : Nat) := hj
    subst hj
    unfold rLeft.b15
    simp only
    by_cases hlt : j < ps.length
    · have hp := hin _ (getD_mem hlt 0)
      rw [decide_eq_true (show (j : Int) < (ps.length : Nat) by omega), decide_eq_true (show (0 : Int) ≤ (j : Nat) by omega), decide_eq_true (show (0 : Int) ≤ (i : Nat) by omega), decide_eq_true (show (i : Int) < (ps.length : Nat) by omega)]
      simp only [cond_true, Bool.and_self, Int.toNat_natCast]
      rw [decide_eq_true hp.1, decide_eq_true hp.2, decide_eq_true hn.1, decide_eq_true hn.2]
      simp only [cond_true, Bool.and_self]
      rw [show worse.F (l.getD (ps.getD i 0).toNat ty41.dflt, l.getD (ps.getD j 0).toNat ty41.dflt, s, ()) = some (bt (at_ l (ps.getD i 0)) (at_ l (ps.getD j 0)) s, ()) from worse_eq s (fit_at hf hn) (fit_at hf hp)]
      simp only [Option.bind_some]
      rw [wrap_succ hlt (by omega), hk _ ⟨j + 1, rfl, hlt⟩ (by simp; omega), hk _ ⟨j + 1, rfl, hlt⟩ (by simp; omega), drop_getD hlt 0, List.any_cons]
      simp only [Int.toNat_natCast]
      cases g
      · cases bt (at_ l (ps.getD i 0)) (at_ l (ps.getD j 0)) s <;> simp
      · simp
    · rw [decide_eq_false (show ¬ (j : Int) < (ps.length : Nat) by omega), decide_eq_true (show (out.length + 1) * 8 ≤ maxBytes by unfold maxBytes; omega), decide_eq_true (show (0 : Int) ≤ (i : Nat) by omega), decide_eq_true (show (i : Int) < (ps.length : Nat) by omega), wrap_succ hi (by omega)]
      have : j = ps.length := by omega
      subst this
      cases g <;> simp
  · exact ⟨0, rfl, Nat.zero_le _⟩
  · exact FU_lt (by simp; omega)

theorem rLeft_sift (hf : ∀ a ∈ l, Fit a) (hin : In l ps) (hlen : ps.length < 1000000) (a1 s : Int) (k7 : Int × List Int → Option (List Int × Unit)) : rLeft.l11 worse.F FU l a1 s ps k7 FU (0, []) = k7 (IntKind.i64.wrap (s + 1), sf l ps s) := by
  unfold rLeft.l11
  rw [iterN_eq (F := fun t : Int × List Int => k7 (IntKind.i64.wrap (s + 1), t.2 ++ (ps.drop t.1.toNat).filter fun n => !ps.any fun k => bt (at_ l n) (at_ l k) s))
    (fun t : Int × List Int => ∃ i : Nat, t.1 = (i : Int) ∧ i ≤ ps.length ∧ t.2.length ≤ i) (fun t : Int × List Int => ps.length - t.1.toNat)]
  · rfl
  · rintro ⟨idx, out⟩ k ⟨i, hi, hle, hol⟩ hk
    have hi : idx = (i : Nat) := hi
    have hol : out.length ≤ i := hol
    subst hi
    unfold rLeft.b11
    simp only
    by_cases hlt : i < ps.length
    · rw [decide_eq_true (show (i : Int) < (ps.length : Nat) by omega), cond_true, rLeft_inner hf hin hlen a1 s hlt out (by omega) k k7, Int.toNat_natCast, drop_getD hlt 0, List.filter_cons]
      cases ps.any fun k => bt (at_ l (ps.getD i 0)) (at_ l k) s with
      | true =>
        rw [cond_true, hk _ ⟨i + 1, rfl, hlt, by simp; omega⟩ (by simp; omega)]
        simp
      | false =>
        rw [cond_false, hk _ ⟨i + 1, rfl, hlt, by simp; omega⟩ (by simp; omega)]
        simp
    · rw [decide_eq_false (show ¬ (i : Int) < (ps.length : Nat) by omega)]
      have : i = ps.length := by omega
      subst this
      simp
  · exact ⟨0, rfl, Nat.zero_le _, Nat.le_refl _⟩
  · exact FU_lt (by simp; omega)

theorem rLeft_eq (hf : ∀ a ∈ l, Fit a) (hlen : l.length < 1000000) (s : Nat) (hs : s ≤ 6) : rLeft.F (l, (s : Int), ()) = some (leftN l s, ()) := by
  have h8 : rLeft.l7 worse.F FU l (s : Int) FU (1, leftN l 0) = some (leftN l s, ()) := by
    unfold rLeft.l7
    rw [iterN_eq (F := fun _ : Int × List Int => some (leftN l s, ())) (fun t : Int × List Int => ∃ j : Nat, t.1 = ((j + 1 : Nat) : Int) ∧ j ≤ s ∧ t.2 = leftN l j) (fun t : Int × List Int => s + 1 - t.1.toNat)]
    · rintro ⟨idx, out⟩ k ⟨j, h1, h2, h3⟩ hk
      have h1 : idx = ((j + 1 : Nat) : Int) := h1
      have h3 : out = leftN l j := h3
      subst h1 h3
      unfold rLeft.b7
      simp only
      by_cases hj : j < s
      · rw [decide_eq_true (show ((j + 1 : Nat) : Int) ≤ (s : Int) by omega), cond_true, decide_eq_true (show ((j + 1 : Nat) : Int) ≤ 7 by omega), cond_true, rLeft_sift hf (leftN_in j) (Nat.lt_of_le_of_lt (leftN_length j) hlen)]
        rw [show IntKind.i64.wrap (((j + 1 : Nat) : Int) + 1) = ((j + 1 + 1 : Nat) : Int) from wrap_succ (n := 100) (by omega) (by omega)]
        exact hk _ ⟨j + 1, rfl, by omega, (if_neg (show ¬ ((j + 1 : Nat) : Int) = 7 by omega)).symm⟩ (by simp; omega)
      · have : j = s := by omega
        subst this
        rw [decide_eq_false (show ¬ ((j + 1 : Nat) : Int) ≤ (j : Int) by omega), decide_eq_false (show ¬ (j : Int) ≥ 7 by omega)]
        rfl
    · exact ⟨0, rfl, Nat.zero_le _, rfl⟩
    · exact FU_lt (by simp; omega)
  show rLeft.l3 worse.F FU l (s : Int) FU (0, []) = _
  unfold rLeft.l3
  rw [iterN_eq (F := fun _ : Int × List Int => some (leftN l s, ())) (fun t : Int × List Int => ∃ i : Nat, t.1 = (i : Int) ∧ i ≤ l.length ∧ t.2 = (List.range i).map fun i : Nat => (i : Int)) (fun t : Int × List Int => l.length - t.1.toNat)]
  · rintro ⟨idx, out⟩ k ⟨i, hi, hle, ho⟩ hk
    have hi : idx = (i : Nat) := hi
    have ho : out = (List.range i).map fun i : Nat => (i : Int) := ho
    subst hi ho
    unfold rLeft.b3
    simp only
    by_cases hlt : i < l.length
    · rw [decide_eq_true (show (i : Int) < (l.length : Nat) by omega), decide_eq_true (show (((List.range i).map fun i : Nat => (i : Int)).length + 1) * 8 ≤ maxBytes by unfold maxBytes; simp; omega)]
      simp only [cond_true]
      rw [wrap_succ hlt (by omega), ← range_succ_int]
      exact hk _ ⟨i + 1, rfl, hlt, rfl⟩ (by simp; omega)
    · have : i = l.length := by omega
      subst this
      rw [decide_eq_false (show ¬ ((l.length : Nat) : Int) < (l.length : Nat) by omega), cond_false]
      exact h8
  · exact ⟨0, rfl, Nat.zero_le _, rfl⟩
  · exact FU_lt (by simp; omega)

/-! ### Insertion from the front -/
def insL {α : Type} (lt : α → α → Bool) (x : α) : List α → List α
  | [] => [x]
  | y :: ys => bif lt x y then x :: y :: ys else y :: insL lt x ys
theorem insL_length {α : Type} {lt : α → α → Bool} {x : α} : ∀ ys : List α, (insL lt x ys).length = ys.length + 1
  | [] => rfl
  | y :: ys => by
    simp only [insL]
    cases lt x y with
    | true => rfl
    | false => simp [insL_length ys]
theorem mem_insL {α : Type} {lt : α → α → Bool} {x z : α} : ∀ {r : List α}, z ∈ insL lt x r ↔ z = x ∨ z ∈ r
  | [] => by simp [insL]
  | y :: r => by
    simp only [insL]
    cases lt x y with
    | true => simp
    | false => simp only [cond_false, List.mem_cons, mem_insL]; constructor <;> (rintro (h | h | h) <;> simp [h])
theorem insL_append {α : Type} {lt : α → α → Bool} {x : α} : ∀ {a b : List α}, (∀ y ∈ a, lt x y = false) → (∀ y ∈ b, lt x y = true) → insL lt x (a ++ b) = a ++ x :: b
  | [], [], _, _ => rfl
  | [], y :: b, _, h => by simp [insL, h y (by simp)]
  | y :: a, b, h, h2 => by
    simp only [List.cons_append, insL]
    rw [h y (by simp), cond_false, insL_append (fun z hz => h z (by simp [hz])) h2]
theorem insRev_append {α : Type} {lt : α → α → Bool} {x : α} : ∀ {b a : List α}, (∀ y ∈ a, lt x y = false) → (∀ y ∈ b, lt x y = true) → insRev lt x (b ++ a) = b ++ x :: a
  | [], [], _, _ => rfl
  | [], y :: a, h, _ => by simp [insRev, h y (by simp)]
  | y :: b, a, h, h2 => by
    simp only [List.cons_append, insRev]
    rw [h2 y (by simp), cond_true, insRev_append h fun z hz => h2 z (by simp [hz])]
/-- A row in order. -/
def Sor {α : Type} (lt : α → α → Bool) (l : List α) : Prop := l.Pairwise fun y z => lt z y = false
structure Weak {α : Type} (lt : α → α → Bool) : Prop where
  asym : ∀ x y, lt x y = true → lt y x = false
  trans : ∀ x y z, lt x y = true → lt z y = false → lt x z = true
theorem sor_split {α : Type} {lt : α → α → Bool} (hw : Weak lt) (x : α) : ∀ {l : List α}, Sor lt l → ∃ a b, l = a ++ b ∧ (∀ y ∈ a, lt x y = false) ∧ ∀ y ∈ b, lt x y = true
  | [], _ => ⟨[], [], rfl, by simp, by simp⟩
  | y :: l, h => by
    have ⟨h1, h2⟩ := List.pairwise_cons.1 h
    cases hy : lt x y with
    | true => exact ⟨[], y :: l, rfl, by simp, fun z hz => (List.mem_cons.1 hz).elim (fun e => e ▸ hy) fun hz => hw.trans x y z hy (h1 z hz)⟩
    | false =>
      obtain ⟨a, b, e, ha, hb⟩ := sor_split hw x h2
      exact ⟨y :: a, b, by rw [e]; rfl, fun z hz => (List.mem_cons.1 hz).elim (fun e => e ▸ hy) (ha z), hb⟩
theorem insL_sor {α : Type} {lt : α → α → Bool} (hw : Weak lt) {x : α} {l : List α} (h : Sor lt l) : Sor lt (insL lt x l) ∧ insL lt x l = (insRev lt x l.reverse).reverse := by
  obtain ⟨a, b, e, ha, hb⟩ := sor_split hw x h
  subst e
  rw [insL_append ha hb, List.reverse_append, insRev_append (fun y hy => ha y (by simpa using hy)) (fun y hy => hb y (by simpa using hy))]
  refine ⟨?_, by simp⟩
  obtain ⟨h1, h2, h3⟩ := List.pairwise_append.1 h
  refine List.pairwise_append.2 ⟨h1, List.pairwise_cons.2 ⟨fun z hz => hw.asym _ _ (hb z hz), h2⟩, fun y hy z hz => ?_⟩
  rcases List.mem_cons.1 hz with e | hz
  · exact e ▸ ha y hy
  · exact h3 y hy z hz
theorem foldl_insL {α : Type} {lt : α → α → Bool} (hw : Weak lt) : ∀ (m acc : List α), Sor lt acc → m.foldl (fun acc x => insL lt x acc) acc = (m.foldl (fun acc x => insRev lt x acc) acc.reverse).reverse
  | [], acc, _ => by simp
  | x :: m, acc, h => by
    simp only [List.foldl_cons]
    have ⟨h1, h2⟩ := insL_sor (x := x) hw h
    rw [foldl_insL hw m _ h1, h2, List.reverse_reverse]
theorem insL_all {α : Type} {lt : α → α → Bool} (hw : Weak lt) (m : List α) : m.foldl (fun acc x => insL lt x acc) [] = insAll lt m := foldl_insL hw m [] List.Pairwise.nil
theorem weak_ltS : Weak (ltS l) := by
  constructor
  · intro x y h
    unfold ltS at *
    simp only [Bool.or_eq_true, decide_eq_true_eq, Bool.and_eq_true, beq_iff_eq, Bool.or_eq_false_iff, decide_eq_false_iff_not, Bool.and_eq_false_iff, beq_eq_false_iff_ne] at *
    omega
  · intro x y z h h'
    unfold ltS at *
    simp only [Bool.or_eq_true, decide_eq_true_eq, Bool.and_eq_true, beq_iff_eq, Bool.or_eq_false_iff, decide_eq_false_iff_not, Bool.and_eq_false_iff, beq_eq_false_iff_ne] at *
    omega

theorem rSet_inner (hin : In l ps) (hlen : ps.length < 1000000) (links : List Int) (w : Int) {j : Nat} (hj : j < ps.length) (out : List Int) (ho : In l out) (hout : out.length < 1000000) (k6 : Int × List Int × List Int → Option (List Int × Unit)) (p : T41) (hp : p = at_ l (ps.getD j 0)) :
    rSet.l10 rLeft.F FU l links w (j : Int) ps out k6 FU (0, p.1) = k6 (((j + 1 : Nat) : Int), ps, insL (ltS l) (ps.getD j 0) out) := by
  unfold rSet.l10
  rw [iterN_eq (F := fun t : Int × T38 => k6 (((j + 1 : Nat) : Int), ps, out.take t.1.toNat ++ insL (ltS l) (ps.getD j 0) (out.drop t.1.toNat)))
    (fun t : Int × T38 => t.2 = p.1 ∧ ∃ i : Nat, t.1 = (i : Int) ∧ i ≤ out.length) (fun t : Int × T38 => out.length - t.1.toNat)]
  · rfl
  · rintro ⟨idx, y⟩ k ⟨hy, i, hi, hle⟩ hk
    have hi : idx = (i : Nat) := hi
    have hy : y = p.1 := hy
    subst hi hy
    unfold rSet.b10
    simp only
    rw [decide_eq_true (show (i : Int) ≤ (out.length : Nat) by omega), decide_eq_true (show (0 : Int) ≤ (i : Nat) by omega), decide_eq_true (show (0 : Int) ≤ (j : Nat) by omega), decide_eq_true (show (j : Int) < (ps.length : Nat) by omega), wrap_succ hj (by omega),
      decide_eq_true (show ((out.length : Nat) : Int) ≤ (out.length : Nat) by omega)]
    simp only [Int.toNat_natCast, List.drop_zero, Nat.sub_zero, List.nil_append, Nat.zero_add, Bool.and_self, cond_true]
    rw [decide_eq_true (show (out.take i).length * 8 ≤ maxBytes by unfold maxBytes; simp; omega), decide_eq_true (show ((out.take i).length + 1) * 8 ≤ maxBytes by unfold maxBytes; simp; omega),
      decide_eq_true (show ((out.take i ++ [ps.getD j 0]).length + ((out.drop i).take (out.length - i)).length) * 8 ≤ maxBytes by unfold maxBytes; simp; omega)]
    simp only [cond_true]
    rw [show (out.drop i).take (out.length - i) = out.drop i from List.take_of_length_le (by simp)]
    by_cases hlt : i < out.length
    · have hq := ho _ (getD_mem hlt 0)
      rw [decide_eq_true (show (i : Int) < (out.length : Nat) by omega)]
      simp only [cond_true, Bool.and_self]
      rw [decide_eq_true hq.1, decide_eq_true hq.2]
      simp only [cond_true, Bool.and_self]
      have hl : ltS l (ps.getD j 0) (out.getD i 0) = (decide (p.1.2.1 < (l.getD (out.getD i 0).toNat ty41.dflt).1.2.1) || (p.1.2.1 == (l.getD (out.getD i 0).toNat ty41.dflt).1.2.1 && decide (p.1.2.2.1 < (l.getD (out.getD i 0).toNat ty41.dflt).1.2.2.1))) := by rw [hp]; rfl
      have hc : out.take i ++ insL (ltS l) (ps.getD j 0) (out.drop i) = bif ltS l (ps.getD j 0) (out.getD i 0) then out.take i ++ [ps.getD j 0] ++ out.drop i else out.take (i + 1) ++ insL (ltS l) (ps.getD j 0) (out.drop (i + 1)) := by
        rw [drop_getD hlt 0]
        simp only [insL]
        cases ltS l (ps.getD j 0) (out.getD i 0) with
        | true => simp
        | false =>
          simp only [cond_false]
          have e : out.getD i 0 = out[i] := by rw [List.getD_eq_getElem?_getD, List.getElem?_eq_getElem hlt]; rfl
          rw [List.take_succ_eq_append_getElem hlt, ← e, List.append_assoc]
          rfl
      rw [hc, hl, wrap_succ hlt (by omega)]
      have hk' := hk (((i + 1 : Nat) : Int), p.1) ⟨rfl, i + 1, rfl, hlt⟩ (by simp; omega)
      simp only [Int.toNat_natCast] at hk'
      cases decide (p.1.2.1 < (l.getD (out.getD i 0).toNat ty41.dflt).1.2.1) with
      | true => rfl
      | false =>
        cases (p.1.2.1 == (l.getD (out.getD i 0).toNat ty41.dflt).1.2.1) with
        | false => exact hk'
        | true =>
          cases decide (p.1.2.2.1 < (l.getD (out.getD i 0).toNat ty41.dflt).1.2.2.1) with
          | true => rfl
          | false => exact hk'
    · rw [decide_eq_false (show ¬ (i : Int) < (out.length : Nat) by omega)]
      have : i = out.length := by omega
      subst this
      simp [insL]
  · exact ⟨rfl, 0, rfl, Nat.zero_le _⟩
  · exact FU_lt (by simp; omega)

theorem rSet_eq (hf : ∀ a ∈ l, Fit a) (hlen : l.length < 20) (links : List Int) (w : Int) : rSet.F (l, links, w, ()) = some (setD l links w, ()) := by
  show rSet.b rLeft.F l links w (fun t => rSet.l6 rLeft.F FU l links w FU t) = _
  unfold rSet.b setD
  by_cases hl : links.length = l.length
  · rw [show (((links.length : Nat) : Int) != ((l.length : Nat) : Int)) = false from by simp [hl], cond_false]
    by_cases h1 : w < 1
    · rw [decide_eq_true h1, if_neg (by omega)]; rfl
    · rw [decide_eq_false h1, cond_false]
      by_cases h2 : w > 8
      · rw [decide_eq_true h2, if_neg (by omega)]; rfl
      · rw [decide_eq_false h2, cond_false, if_pos (by omega)]
        have hL : rLeft.F (l, (6 : Int), ()) = some (leftN l 6, ()) := rLeft_eq hf (by omega) 6 (by omega)
        have hll := leftN_length (l := l) 6
        have hin := leftN_in (l := l) 6
        rw [hL]
        simp only [Option.bind_some]
        generalize leftN l 6 = ps at *
        rw [← insL_all weak_ltS]
        unfold rSet.l6
        rw [iterN_eq (F := fun t : Int × List Int × List Int => some (((ps.drop t.1.toNat).foldl (fun acc x => insL (ltS l) x acc) t.2.2).take w.toNat, ()))
          (fun t : Int × List Int × List Int => t.2.1 = ps ∧ ∃ i : Nat, t.1 = (i : Int) ∧ i ≤ ps.length ∧ t.2.2.length = i ∧ In l t.2.2) (fun t : Int × List Int × List Int => ps.length - t.1.toNat)]
        · rfl
        · rintro ⟨idx, ps', out⟩ k ⟨h3, i, hi, hle, hol, hoi⟩ hk
          have h3 : ps' = ps := h3
          have hi : idx = (i : Nat) := hi
          have hol : out.length = i := hol
          have hoi : In l out := hoi
          subst h3 hi
          unfold rSet.b6
          simp only
          by_cases hlt : i < ps'.length
          · have hp := hin _ (getD_mem hlt 0)
            rw [decide_eq_true (show (i : Int) < (ps'.length : Nat) by omega), decide_eq_true (show (0 : Int) ≤ (i : Nat) by omega)]
            simp only [cond_true, Bool.and_self, Int.toNat_natCast]
            rw [decide_eq_true hp.1, decide_eq_true hp.2]
            simp only [cond_true, Bool.and_self]
            have hx := rSet_inner hin (by omega) links w hlt out hoi (by omega) k (at_ l (ps'.getD i 0)) rfl
            rw [show (0, (l.getD (ps'.getD i 0).toNat ty41.dflt).1.1, (l.getD (ps'.getD i 0).toNat ty41.dflt).1.2) = ((0 : Int), (at_ l (ps'.getD i 0)).1) from rfl] at *
            refine hx.trans ?_
            have hol : out.length = i := hol
            have hoi : In l out := hoi
            have hn : In l (insL (ltS l) (ps'.getD i 0) out) := fun y hy => (mem_insL.1 hy).elim (fun e => by rw [e]; exact hp) (hoi y)
            rw [hk (((i + 1 : Nat) : Int), ps', insL (ltS l) (ps'.getD i 0) out) ⟨rfl, i + 1, rfl, hlt, by simp only; rw [insL_length, hol], hn⟩ (by simp; omega), drop_getD hlt 0, List.foldl_cons]
            simp
          · rw [decide_eq_false (show ¬ (i : Int) < (ps'.length : Nat) by omega), cond_false]
            have : i = ps'.length := by omega
            subst this
            simp only [Int.toNat_natCast, List.drop_length, List.foldl_nil]
            by_cases hw : ((out.length : Nat) : Int) > w
            · rw [decide_eq_true hw, decide_eq_true (show (0 : Int) ≤ w by omega), decide_eq_true (show w ≤ ((out.length : Nat) : Int) by omega)]
              rfl
            · rw [decide_eq_false hw, cond_false, List.take_of_length_le (by omega)]
        · exact ⟨rfl, 0, rfl, Nat.zero_le _, rfl, fun y hy => by cases hy⟩
        · exact FU_lt (by simp; omega)
  · rw [show (((links.length : Nat) : Int) != ((l.length : Nat) : Int)) = true from by simp; omega, if_neg (by omega)]
    rfl
end BE
