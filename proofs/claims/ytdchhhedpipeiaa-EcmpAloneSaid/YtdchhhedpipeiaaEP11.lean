/- Plain: somebody is left; the best one. -/
import Derived.Test.YtdchhhedpipeiaaEP10
set_option linter.unusedVariables false
set_option linter.unusedSimpArgs false
namespace BE
open Go Go.Ev

/-! ### Candidates of few costs -/
def costs : List Nat := [FloatKind.f64.nearest (-1), FloatKind.f64.nearest 0, FloatKind.f64.nearest 1]
def costOf (b : Nat) : Int := if b = FloatKind.f64.nearest (-1) then 2 else if b = FloatKind.f64.nearest 0 then 0 else 1
/-- A candidate whose cost is one of three. -/
structure FewC (a : T41) : Prop where
  fit : Fit a
  cost : a.2 ∈ costs
noncomputable def okLess (p : Nat × Nat) : Bool := match Less.F (p.1, p.2, ()) with
  | some (r, _) => r == decide (costOf p.1 < costOf p.2)
  | none => false
theorem less_all : (costs.flatMap fun x => costs.map fun y => (x, y)).all okLess = true := by kernel_rfl
theorem less_few {x y : Nat} (hx : x ∈ costs) (hy : y ∈ costs) : Less.F (x, y, ()) = some (decide (costOf x < costOf y), ()) := by
  have h := List.all_eq_true.1 less_all (x, y) (List.mem_flatMap.2 ⟨x, hx, List.mem_map.2 ⟨y, hy, rfl⟩⟩)
  unfold okLess at h
  obtain ⟨b, hb, _⟩ := lesses x y
  simp only at h
  rw [hb] at h ⊢
  simp only [beq_iff_eq] at h
  rw [← h]
/-- What a step looks at. -/
noncomputable def keyS (s : Int) (a : T41) : Int :=
  if s = 1 then - prefD a.1.2.2.2.2 else if s = 2 then a.1.2.2.2.2.2.1.foldl cntStep 0 else if s = 3 then a.1.2.2.2.2.1 else if s = 4 then medD a.1.2.2.2.2
  else if s = 5 then (if a.1.2.2.2.1 = true then 1 else 0) else costOf a.2
theorem bt_key {a b : T41} (ha : FewC a) (hb : FewC b) {s : Int} (h1 : 1 ≤ s) (h6 : s ≤ 6) (h : bt a b s = true) : keyS s b < keyS s a := by
  have hca := Count_eq a.1.2.2.2.2.2.1 (by have := ha.fit; unfold Fit at this; omega)
  have hcb := Count_eq b.1.2.2.2.2.2.1 (by have := hb.fit; unfold Fit at this; omega)
  obtain ⟨f, hf1, _⟩ := fellows_eq a.1.2.2.2.2 b.1.2.2.2.2
  have he : beats.b Pref.F Count.F fellows.F med.F Less.F Ahead.F a b s = some (true, ()) := by
    have := beats_eq s ha.fit hb.fit
    rw [h] at this
    exact this
  have hs : s = 1 ∨ s = 2 ∨ s = 3 ∨ s = 4 ∨ s = 5 ∨ s = 6 := by omega
  unfold beats.b at he
  rw [Pref_eq, Pref_eq, hca, hcb, hf1, med_eq, med_eq, less_few hb.cost ha.cost] at he
  simp only [Option.bind_some] at he
  have inj : ∀ {p q : Bool}, (some (p, PUnit.unit) : Option (Bool × Unit)) = some (q, ()) → p = q := fun h => (Prod.mk.inj (Option.some.inj h)).1
  rcases hs with rfl | rfl | rfl | rfl | rfl | rfl
  · have := of_decide_eq_true (inj he)
    show - prefD b.1.2.2.2.2 < - prefD a.1.2.2.2.2
    omega
  · exact of_decide_eq_true (inj he)
  · exact of_decide_eq_true (inj he)
  · cases f with
    | true => exact of_decide_eq_true (inj he)
    | false => cases inj he
  · show (if b.1.2.2.2.1 = true then (1 : Int) else 0) < (if a.1.2.2.2.1 = true then 1 else 0)
    have he : (bif a.1.2.2.2.1 then some (!b.1.2.2.2.1, PUnit.unit) else some (false, PUnit.unit)) = some (true, ()) := he
    cases hia : a.1.2.2.2.1 with
    | false => rw [hia] at he; cases inj he
    | true =>
      rw [hia] at he
      have := inj he
      cases hib : b.1.2.2.2.1 with
      | true => rw [hib] at this; cases this
      | false => simp
  · exact of_decide_eq_true (inj he)
/-- One whose number is least. -/
theorem least {α : Type} (f : α → Int) : ∀ {l : List α}, l ≠ [] → ∃ x ∈ l, ∀ y ∈ l, f x ≤ f y
  | [], h => absurd rfl h
  | [x], _ => ⟨x, by simp, by simp⟩
  | x :: y :: l, _ => by
    obtain ⟨z, hz, hm⟩ := least f (l := y :: l) (by simp)
    by_cases h : f x ≤ f z
    · exact ⟨x, by simp, fun w hw => (List.mem_cons.1 hw).elim (fun e => by rw [e]; omega) fun hw => by have := hm w hw; omega⟩
    · exact ⟨z, List.mem_cons_of_mem _ hz, fun w hw => (List.mem_cons.1 hw).elim (fun e => by rw [e]; omega) fun hw => hm w hw⟩
variable {l : List T41} {ps : List Int}
theorem few_at (hf : ∀ a ∈ l, FewC a) {n : Int} (hn : 0 ≤ n ∧ n < (l.length : Nat)) : FewC (at_ l n) := hf _ (getD_mem (by omega) _)
theorem sf_ne (hf : ∀ a ∈ l, FewC a) (hin : In l ps) (hne : ps ≠ []) {s : Int} (h1 : 1 ≤ s) (h6 : s ≤ 6) : sf l ps s ≠ [] := by
  obtain ⟨n, hn, hm⟩ := least (fun n => keyS s (at_ l n)) hne
  intro h
  have : n ∈ sf l ps s := List.mem_filter.2 ⟨hn, by
    rw [Bool.not_eq_true', List.any_eq_false]
    intro k hk hb
    have h1 := bt_key (few_at hf (hin n hn)) (few_at hf (hin k hk)) h1 h6 hb
    have h2 := hm k hk
    omega⟩
  rw [h] at this
  cases this
theorem leftN_ne (hf : ∀ a ∈ l, FewC a) (hne : l ≠ []) : ∀ k, k ≤ 6 → leftN l k ≠ []
  | 0, _ => by
    intro h
    have := congrArg List.length h
    simp [leftN] at this
    exact hne this
  | k + 1, hk => by
    show siftD l (leftN l k) ((k + 1 : Nat) : Int) ≠ []
    unfold siftD
    rw [if_neg (by omega)]
    exact sf_ne hf (leftN_in k) (leftN_ne hf hne k (by omega)) (by omega) (by omega)
theorem candsD_few (r : List T53) : ∀ a ∈ candsD true r, FewC a := fun a ha => by
  refine ⟨candsD_fit true r a ha, ?_⟩
  obtain ⟨i, _, rfl⟩ := List.mem_map.1 ha
  show FloatKind.f64.nearest (Int.tmod (r.getD i ty53.dflt).2.1 2) ∈ costs
  have h1 := Int.tmod_lt_of_pos (r.getD i ty53.dflt).2.1 (show (0 : Int) < 2 by omega)
  have h2 := Int.lt_tmod_of_pos (r.getD i ty53.dflt).2.1 (show (0 : Int) < 2 by omega)
  generalize Int.tmod (r.getD i ty53.dflt).2.1 2 = t at *
  have : t = -1 ∨ t = 0 ∨ t = 1 := by omega
  unfold costs
  rcases this with rfl | rfl | rfl <;> simp

/-! ### The first one -/
/-- The first of those that nobody is ahead of. -/
def FirstOf {α : Type} (lt : α → α → Bool) (p : List α) (h : α) : Prop := ∃ a b, p = a ++ h :: b ∧ (∀ y ∈ a, ∃ k ∈ p, lt k y = true) ∧ ∀ k ∈ p, lt k h = false
theorem FirstOf.filter {α : Type} {lt : α → α → Bool} {p : List α} {h : α} (hh : FirstOf lt p h) : ∃ r, (p.filter fun n => !p.any fun k => lt k n) = h :: r := by
  obtain ⟨a, b, e, h1, h2⟩ := hh
  have hq : ∀ (q : List α), (∀ y ∈ q, ∃ k ∈ p, lt k y = true) → (q.filter fun n => !p.any fun k => lt k n) = [] := fun q hq => List.filter_eq_nil_iff.2 fun y hy => by
    obtain ⟨k, hk, hl⟩ := hq y hy
    rw [List.any_eq_true.2 ⟨k, hk, hl⟩]
    simp
  have hh : (!p.any fun k => lt k h) = true := by
    rw [Bool.not_eq_true', List.any_eq_false]
    intro k hk
    rw [h2 k hk]
    simp
  refine ⟨b.filter fun n => !p.any fun k => lt k n, ?_⟩
  have h3 : (p.filter fun n => !p.any fun k => lt k n) = ((a ++ h :: b).filter fun n => !p.any fun k => lt k n) := by rw [← e]
  rw [h3, List.filter_append, hq a h1, List.filter_cons, if_pos hh]
  rfl
theorem FirstOf.snoc {α : Type} {lt : α → α → Bool} (hw : Weak lt) {p : List α} {h x : α} (hh : FirstOf lt p h) : FirstOf lt (p ++ [x]) (bif lt x h then x else h) := by
  obtain ⟨a, b, e, h1, h2⟩ := hh
  have hxx : lt x x = false := by
    cases hx : lt x x with
    | false => rfl
    | true => have := hw.asym x x hx; rw [hx] at this; cases this
  have hhp : h ∈ p := by rw [e]; simp
  cases hx : lt x h with
  | false =>
    refine ⟨a, b ++ [x], by rw [e]; simp, fun y hy => ?_, fun k hk => ?_⟩
    · obtain ⟨k, hk, hl⟩ := h1 y hy
      exact ⟨k, List.mem_append_left _ hk, hl⟩
    · rcases List.mem_append.1 hk with hk | hk
      · exact h2 k hk
      · rw [List.mem_singleton.1 hk]; exact hx
  | true =>
    refine ⟨p, [], rfl, fun y hy => ?_, fun k hk => ?_⟩
    · by_cases hm : ∃ k ∈ p, lt k y = true
      · obtain ⟨k, hk, hl⟩ := hm
        exact ⟨k, List.mem_append_left _ hk, hl⟩
      · refine ⟨x, by simp, hw.trans x h y hx ?_⟩
        exact h2 y hy
    · rcases List.mem_append.1 hk with hk | hk
      · cases hl : lt k x with
        | false => exact hl
        | true =>
          have := hw.trans k x h hl (hw.asym x h hx)
          rw [h2 k hk] at this
          cases this
      · rw [List.mem_singleton.1 hk]; exact hxx
theorem insL_head {α : Type} {lt : α → α → Bool} {x h : α} {r : List α} : ∃ r', insL lt x (h :: r) = (bif lt x h then x else h) :: r' := by
  unfold insL
  cases lt x h <;> exact ⟨_, rfl⟩
theorem foldl_head {α : Type} {lt : α → α → Bool} (hw : Weak lt) : ∀ (m p acc : List α) (h : α) (r : List α), acc = h :: r → FirstOf lt p h → ∃ h' r', m.foldl (fun acc x => insL lt x acc) acc = h' :: r' ∧ FirstOf lt (p ++ m) h'
  | [], p, acc, h, r, e, hh => ⟨h, r, e, by simpa using hh⟩
  | x :: m, p, acc, h, r, e, hh => by
    subst e
    obtain ⟨r', e'⟩ := insL_head (lt := lt) (x := x) (h := h) (r := r)
    obtain ⟨h2, r2, e2, k2⟩ := foldl_head hw m (p ++ [x]) _ _ r' e' (hh.snoc hw)
    exact ⟨h2, r2, e2, by simpa using k2⟩
theorem insAll_first {α : Type} {lt : α → α → Bool} (hw : Weak lt) {m : List α} (hne : m ≠ []) : ∃ h r, insAll lt m = h :: r ∧ FirstOf lt m h := by
  rw [← insL_all hw]
  match m, hne with
  | x :: m, _ =>
    have hxx : lt x x = false := by
      cases hx : lt x x with
      | false => rfl
      | true => have := hw.asym x x hx; rw [hx] at this; cases this
    exact foldl_head hw m [x] [x] x [] rfl ⟨[], [], rfl, by simp, by simpa using hxx⟩
theorem ltS_ahead (x y : Int) : ltS l x y = aheadD (at_ l x) (at_ l y) := by
  unfold ltS aheadD
  cases decide ((at_ l x).1.2.1 < (at_ l y).1.2.1) with
  | true => rfl
  | false =>
    cases ((at_ l x).1.2.1 == (at_ l y).1.2.1) <;> rfl
theorem bt_seven {a b : T41} (ha : Fit a) (hb : Fit b) : bt a b 7 = aheadD b a := by
  have h := beats_eq 7 ha hb
  have h2 : beats.F (a, b, 7, ()) = some (aheadD b a, ()) := by
    show beats.b Pref.F Count.F fellows.F med.F Less.F Ahead.F a b 7 = _
    unfold beats.b
    rw [Ahead_eq]
    rfl
  rw [h] at h2
  exact (Prod.mk.inj (Option.some.inj h2)).1
/-- The best one is the first of those that share. -/
theorem best_first (hf : ∀ a ∈ l, FewC a) (hne : l ≠ []) (hlen : l.length < 1000000) : ∃ h r, allD l = h :: r ∧ Best.F (l, ()) = some (h, true, ()) := by
  have hn := leftN_ne hf hne 6 (by omega)
  obtain ⟨h, r, e, hh⟩ := insAll_first (weak_ltS (l := l)) hn
  refine ⟨h, r, e, ?_⟩
  have hL := Left_eq (l := l) (fun a ha => (hf a ha).fit) hlen 7 (by omega)
  have hL' : Left.F (l, (7 : Int), ()) = some (leftN l 7, ()) := hL
  have h7 : leftN l 7 = [h] := by
    show siftD l (leftN l 6) 7 = _
    unfold siftD
    rw [if_pos rfl]
    obtain ⟨q, hq⟩ := hh.filter
    have : sf l (leftN l 6) 7 = h :: q := by
      rw [← hq]
      unfold sf
      refine List.filter_congr fun n hn => ?_
      congr 1
      have hin := leftN_in (l := l) 6
      rw [Bool.eq_iff_iff, List.any_eq_true, List.any_eq_true]
      constructor
      · rintro ⟨k, hk, hb⟩
        rw [bt_seven (few_at hf (hin n hn)).fit (few_at hf (hin k hk)).fit, ← ltS_ahead] at hb
        exact ⟨k, hk, hb⟩
      · rintro ⟨k, hk, hb⟩
        refine ⟨k, hk, ?_⟩
        rw [bt_seven (few_at hf (hin n hn)).fit (few_at hf (hin k hk)).fit, ← ltS_ahead]
        exact hb
    rw [this]
    rfl
  show Best.b Left.F l = _
  unfold Best.b
  have hl : l.length ≠ 0 := fun h => hne (List.eq_nil_of_length_eq_zero h)
  rw [show (((l.length : Nat) : Int) == 0) = false from by simp; omega, hL', h7]
  rfl
theorem best_none : Best.F (([] : List T41), ()) = some (0, false, ()) := rfl
end BE
