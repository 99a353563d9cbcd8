/- Plain: those that share. -/
import Derived.Test.YtdchhhedpipeiaaEP1
set_option linter.unusedVariables false
set_option linter.unusedSimpArgs false
namespace BE
open Go Go.Ev

/-! ### The closure -/
def cmpI (x y : Int) : Int := if x < y then -1 else if x > y then 1 else 0
theorem Compare_eq (x y : Int) : Compare.F (x, y, ()) = some (cmpI x y, ()) := by
  show Compare.b isNaN.F x y = _
  have hn : ∀ z : Int, isNaN.F (z, ()) = some (false, ()) := fun z => by
    show isNaN.b z = _
    unfold isNaN.b
    rw [show (z != z) = false from by simp]
  unfold Compare.b cmpI
  rw [hn, hn]
  simp only [Option.bind_some, cond_false]
  by_cases h : x < y
  · rw [decide_eq_true h, if_pos h]; rfl
  · rw [decide_eq_false h, if_neg h, cond_false]
    by_cases h2 : x > y
    · rw [decide_eq_true h2, if_pos h2]; rfl
    · rw [decide_eq_false h2, if_neg h2]; rfl
theorem FU_succ (k : Nat) (hk : k < 1000000) : ∃ m, FU = m + k := ⟨FU - k, by have := FU_eq; omega⟩
theorem Or_eq (a b : Int) : Or.F ([a, b], ()) = some (if a ≠ 0 then a else b, ()) := by
  show Or.l3 FU [a, b] FU (0, 2, 0) = _
  obtain ⟨m, hm⟩ := FU_succ 3 (by omega)
  unfold Or.l3
  rw [hm]
  have w1 : IntKind.i64.wrap (1 : Int) = 1 := by rw [wrap_id] <;> omega
  have w2 : IntKind.i64.wrap (2 : Int) = 2 := by rw [wrap_id] <;> omega
  have w3 : IntKind.i64.wrap ((1 : Int) + 1) = 2 := by rw [wrap_id] <;> omega
  by_cases ha : a = 0
  · subst ha
    by_cases hb : b = 0
    · subst hb
      simp [iterN, Or.b3, w1, w2, w3]
    · have hb' : (b != 0) = true := by simpa using hb
      simp [iterN, Or.b3, w1, w2, w3, hb']
  · have ha' : (a != 0) = true := by simpa using ha
    simp [iterN, Or.b3, ha, ha']

variable {l : List T41} {ps : List Int}
abbrev idOf (a : T41) : Int := a.1.2.1
abbrev adOf (a : T41) : Int := a.1.2.2.1
/-- One place is ahead of another one. -/
noncomputable def ltS (l : List T41) (x y : Int) : Bool := decide (idOf (at_ l x) < idOf (at_ l y)) || (idOf (at_ l x) == idOf (at_ l y) && decide (adOf (at_ l x) < adOf (at_ l y)))
theorem SetC_eq {x y : Int} (hx : 0 ≤ x ∧ x < (l.length : Nat)) (hy : 0 ≤ y ∧ y < (l.length : Nat)) : ∃ r, SetC.F (x, y, l, ()) = some ((r, ()), (x, y, l, ())) ∧ decide (r < 0) = ltS l x y := by
  refine ⟨if cmpI (idOf (at_ l x)) (idOf (at_ l y)) ≠ 0 then cmpI (idOf (at_ l x)) (idOf (at_ l y)) else cmpI (adOf (at_ l x)) (adOf (at_ l y)), ?_, ?_⟩
  · show SetC.b Compare.F Or.F x y l = _
    unfold SetC.b
    rw [decide_eq_true hx.1, decide_eq_true hx.2, decide_eq_true hy.1, decide_eq_true hy.2]
    simp only [Bool.and_self, cond_true]
    rw [Compare_eq, Compare_eq]
    simp only [Option.bind_some]
    rw [Or_eq]
    rfl
  · unfold ltS cmpI
    rw [Bool.eq_iff_iff]
    simp only [decide_eq_true_eq, Bool.or_eq_true, Bool.and_eq_true, beq_iff_eq]
    generalize idOf (at_ l x) = a
    generalize idOf (at_ l y) = b
    generalize adOf (at_ l x) = c
    generalize adOf (at_ l y) = d
    by_cases h1 : a < b
    · rw [if_pos h1]
      simp [h1]
    · rw [if_neg h1]
      by_cases h2 : a > b
      · rw [if_pos h2]
        simp
        omega
      · rw [if_neg h2]
        simp only [ne_eq, not_true_eq_false, if_false]
        by_cases h3 : c < d
        · rw [if_pos h3]
          simp [h3]
          omega
        · rw [if_neg h3]
          refine iff_of_false ?_ (by omega)
          split <;> simp
theorem cmpOf_lt {x y : Int} (hx : 0 ≤ x ∧ x < (l.length : Nat)) (hy : 0 ≤ y ∧ y < (l.length : Nat)) : decide (cmpOf (tc := ty23) SetC.F l x y < 0) = ltS l x y := by
  obtain ⟨r, h1, h2⟩ := SetC_eq hx hy
  unfold cmpOf
  rw [h1]
  exact h2

/-! ### Stable insertion -/
theorem insRev_congr {α : Type} {lt lt' : α → α → Bool} {x : α} : ∀ {r : List α}, (∀ y ∈ r, lt x y = lt' x y) → insRev lt x r = insRev lt' x r
  | [], _ => rfl
  | y :: r, h => by
    simp only [insRev]
    rw [h y (by simp), insRev_congr fun z hz => h z (by simp [hz])]
theorem mem_insRev {α : Type} {lt : α → α → Bool} {x z : α} : ∀ {r : List α}, z ∈ insRev lt x r ↔ z = x ∨ z ∈ r
  | [] => by simp [insRev]
  | y :: r => by
    simp only [insRev]
    cases lt x y with
    | true => simp only [cond_true, List.mem_cons, mem_insRev]; constructor <;> (rintro (h | h | h) <;> simp [h])
    | false => simp
theorem insAll_congr {α : Type} {lt lt' : α → α → Bool} {l : List α} (h : ∀ x ∈ l, ∀ y ∈ l, lt x y = lt' x y) : insAll lt l = insAll lt' l := by
  unfold insAll
  congr 1
  have key : ∀ (m acc : List α), (∀ x ∈ m, x ∈ l) → (∀ x ∈ acc, x ∈ l) → m.foldl (fun acc x => insRev lt x acc) acc = m.foldl (fun acc x => insRev lt' x acc) acc := by
    intro m
    induction m with
    | nil => intro _ _ _; rfl
    | cons x m ih =>
      intro acc hm ha
      simp only [List.foldl_cons]
      rw [insRev_congr fun y hy => h x (hm x (by simp)) y (ha y hy)]
      exact ih _ (fun y hy => hm y (by simp [hy])) fun y hy => (mem_insRev.1 hy).elim (fun e => e ▸ hm x (by simp)) (ha y)
  exact key l [] (fun _ h => h) (fun _ h => by cases h)

theorem insSort_eq (hin : In l ps) (hlen : ps.length < 1000000) : insSort.F (ps, 0, ((ps.length : Nat) : Int), (l, ()), ()) = some ((), (insAll (ltS l) ps, 0, ((ps.length : Nat) : Int), (l, ()), ())) := by
  show (insF (tc := ty23) SetC.F (ps, 0, ((ps.length : Nat) : Int), (l, ()), ())).orElse (fun _ => insSort.f SetC.F FU ps 0 ((ps.length : Nat) : Int) (l, ())) = _
  by_cases hne : ps = []
  · subst hne
    have h1 : insF (tc := ty23) SetC.F (([] : List Int), 0, (([] : List Int).length : Nat), (l, ()), ()) = none := by
      unfold insF
      exact if_neg fun h => h.1 rfl
    rw [h1]
    show insSort.l1 SetC.F FU [] 0 0 (l, ()) FU (IntKind.i64.wrap (0 + 1), l) = _
    have w1 : IntKind.i64.wrap ((0 : Int) + 1) = 1 := by rw [wrap_id] <;> omega
    obtain ⟨m, hm⟩ := FU_succ 1 (by omega)
    unfold insSort.l1
    rw [w1]
    have : ∀ n, iterN (fun k1 s => insSort.b1 SetC.F [] 0 0 (l, ()) (fun x1_2 x1_6 t => insSort.l4 SetC.F n [] 0 0 (l, ()) x1_2 x1_6 k1 n t) k1 s) (m + 1) ((1 : Int), l) = some ((), (([] : List Int), 0, 0, (l, ()), ())) := fun n => rfl
    have h2 := this FU
    rw [← hm] at h2
    exact h2
  · have hc : insCond (tc := ty23) SetC.F ps 0 ((ps.length : Nat) : Int) l := ⟨hne, rfl, rfl, by omega, fun x hx y hy => by
      obtain ⟨r, h, _⟩ := SetC_eq (hin x hx) (hin y hy)
      exact ⟨r, h⟩⟩
    have h1 : insF (tc := ty23) SetC.F (ps, 0, ((ps.length : Nat) : Int), (l, ()), ()) = some ((), (insAll (fun x y => decide (cmpOf (tc := ty23) SetC.F l x y < 0)) ps, 0, ((ps.length : Nat) : Int), (l, ()), ())) := by
      unfold insF
      exact if_pos hc
    rw [h1, insAll_congr (lt' := ltS l) fun x hx y hy => cmpOf_lt (hin x hx) (hin y hy)]
    rfl

theorem stable_eq (hin : In l ps) (hlen : ps.length < 20) : SortStable.F (ps, (l, ()), ()) = some ((), (insAll (ltS l) ps, (l, ()), ())) := by
  have h34 : stableCmp.F (ps, ((ps.length : Nat) : Int), (l, ()), ()) = some ((), (insAll (ltS l) ps, ((ps.length : Nat) : Int), (l, ()), ())) := by
    show stableCmp.l2 insSort.F (fun _ => none) SetC.F FU ps ((ps.length : Nat) : Int) (l, ()) FU (20, 0, 20, ps, l) = _
    obtain ⟨m, hm⟩ := FU_succ 1 (by omega)
    have h7 : ∀ n, iterN (fun k7 s => stableCmp.b7 insSort.F (fun _ => none) SetC.F ps ((ps.length : Nat) : Int) (l, ()) (fun x7_1 t => stableCmp.l9 insSort.F (fun _ => none) SetC.F n ps ((ps.length : Nat) : Int) (l, ()) x7_1 k7 n t) k7 s) (m + 1) ((20 : Int), insAll (ltS l) ps, l) = some ((), (insAll (ltS l) ps, ((ps.length : Nat) : Int), (l, ()), ())) := fun n => by
      rw [iterN]
      unfold stableCmp.b7
      simp only
      rw [decide_eq_false (show ¬ (20 : Int) < ((ps.length : Nat) : Int) by omega)]
      rfl
    have h2 : ∀ n, (∀ t, stableCmp.l7 insSort.F (fun _ => none) SetC.F n ps ((ps.length : Nat) : Int) (l, ()) n (20, insAll (ltS l) ps, l) = t → t = some ((), (insAll (ltS l) ps, ((ps.length : Nat) : Int), (l, ()), ()))) →
        iterN (fun k2 s => stableCmp.b2 insSort.F (fun _ => none) SetC.F ps ((ps.length : Nat) : Int) (l, ()) (fun t => stableCmp.l7 insSort.F (fun _ => none) SetC.F n ps ((ps.length : Nat) : Int) (l, ()) n t) k2 s) (m + 1) ((20 : Int), (0 : Int), (20 : Int), ps, l) = some ((), (insAll (ltS l) ps, ((ps.length : Nat) : Int), (l, ()), ())) := fun n hn => by
      rw [iterN]
      unfold stableCmp.b2
      simp only
      rw [decide_eq_false (show ¬ (20 : Int) ≤ ((ps.length : Nat) : Int) by omega), cond_false, insSort_eq hin (by omega)]
      simp only [Option.bind_some]
      exact hn _ rfl
    have h3 := h2 FU (fun t ht => by
      rw [← ht]
      unfold stableCmp.l7
      have := h7 FU
      rw [← hm] at this
      exact this)
    rw [← hm] at h3
    exact h3
  show SortStable.b stableCmp.F SetC.F ps (l, ()) = _
  unfold SortStable.b
  rw [h34]
  rfl

/-- Those that share. -/
noncomputable def setD (l : List T41) (links : List Int) (w : Int) : List Int :=
  if links.length = l.length ∧ 1 ≤ w ∧ w ≤ 8 then (insAll (ltS l) (leftN l 6)).take w.toNat else []
theorem Set_eq (hf : ∀ a ∈ l, Fit a) (hlen : l.length < 20) (links : List Int) (w : Int) : Set.F (l, links, w, ()) = some (setD l links w, ()) := by
  show Set.b Left.F SortStable.F l links w = _
  unfold Set.b setD
  by_cases hl : links.length = l.length
  · rw [show (((links.length : Nat) : Int) != ((l.length : Nat) : Int)) = false from by simp [hl], cond_false]
    by_cases h1 : w < 1
    · rw [decide_eq_true h1, if_neg (by omega)]; rfl
    · rw [decide_eq_false h1, cond_false]
      by_cases h2 : w > 8
      · rw [decide_eq_true h2, if_neg (by omega)]; rfl
      · rw [decide_eq_false h2, cond_false, if_pos (by omega)]
        have hL := Left_eq hf (by omega) 6 (by omega)
        have hL' : Left.F (l, (6 : Int), ()) = some (leftN l 6, ()) := hL
        have hll := leftN_length (l := l) 6
        rw [hL']
        simp only [Option.bind_some]
        rw [stable_eq (leftN_in 6) (by omega)]
        simp only [Option.bind_some]
        obtain ⟨xs, hxs⟩ : ∃ xs, xs = insAll (ltS l) (leftN l 6) := ⟨_, rfl⟩
        rw [← hxs]
        have hi : (if w < ((xs.length : Nat) : Int) then w else ((xs.length : Nat) : Int)) = ((min w.toNat xs.length : Nat) : Int) := by
          split <;> omega
        rw [show (if w < ((List.length xs : Nat) : Int) then w else ((List.length xs : Nat) : Int)) = ((min w.toNat xs.length : Nat) : Int) from hi]
        rw [decide_eq_true (show (0 : Int) ≤ ((min w.toNat xs.length : Nat) : Int) by omega), decide_eq_true (show ((min w.toNat xs.length : Nat) : Int) ≤ ((xs.length : Nat) : Int) by omega)]
        simp only [Bool.and_self, cond_true, Int.toNat_natCast, Nat.sub_zero, List.drop_zero]
        rw [← List.take_eq_take_min]
  · rw [show (((links.length : Nat) : Int) != ((l.length : Nat) : Int)) = true from by simp; omega, if_neg (by omega)]
    rfl
end BE
