/- Plain: loops; the leaves. -/
import Derived.Test.YtdchhhedpipeiaaEC
set_option linter.unusedVariables false
set_option linter.unusedSimpArgs false
namespace BE
open Go Go.Ev

theorem iterN_eq {σ R : Type} {B : (σ → Option R) → σ → Option R} {F : σ → Option R} (Inv : σ → Prop) (m : σ → Nat)
    (h : ∀ s k, Inv s → (∀ s', Inv s' → m s' < m s → k s' = F s') → B k s = F s) : ∀ n s, Inv s → m s < n → iterN B n s = F s
  | 0, s, _, hn => absurd hn (Nat.not_lt_zero _)
  | n + 1, s, hi, hn => h s (iterN B n) hi fun s' hi' hm => iterN_eq Inv m h n s' hi' (by omega)

theorem wrap_id {x : Int} (h0 : -9223372036854775808 ≤ x) (h1 : x < 9223372036854775808) : IntKind.i64.wrap x = x := by
  rw [IntKind.wrap_i64]
  omega
theorem wrap_succ {i n : Nat} (h : i < n) (hn : n < 4611686018427387904) : IntKind.i64.wrap ((i : Int) + 1) = ((i + 1 : Nat) : Int) := by
  rw [wrap_id] <;> omega
theorem FU_lt {n : Nat} (h : n < 4611686018427387904) : n < FU := by
  rw [FU_eq]
  omega

/-! ### Within -/
theorem within_ok (n lo hi : Int) (h0 : 0 ≤ lo) (h1 : lo ≤ hi) (h2 : hi ≤ 1000000) : ∃ w, Within.F (n, lo, hi, ()) = some (w, ()) ∧ lo ≤ w ∧ w ≤ hi := by
  have e1 : IntKind.i64.wrap (hi - lo) = hi - lo := wrap_id (by omega) (by omega)
  have e2 : IntKind.i64.wrap (hi - lo + 1) = hi - lo + 1 := wrap_id (by omega) (by omega)
  obtain ⟨t, ht⟩ : ∃ t, t = Int.tmod n (hi - lo + 1) := ⟨_, rfl⟩
  have b1 : t < hi - lo + 1 := by rw [ht]; exact Int.tmod_lt_of_pos _ (by omega)
  have b2 : -(hi - lo + 1) < t := by rw [ht]; exact Int.lt_tmod_of_pos _ (by omega) 
  show ∃ w, Within.b n lo hi = some (w, ()) ∧ lo ≤ w ∧ w ≤ hi
  unfold Within.b
  rw [e1, e2, ← ht]
  rw [show (decide (hi - lo + 1 = 0)) = false from decide_eq_false (by omega)]
  simp only [Bool.not_false, cond_true]
  by_cases hneg : t < 0
  · rw [decide_eq_true hneg, cond_true, wrap_id (x := t + hi) (by omega) (by omega), wrap_id (x := t + hi - lo) (by omega) (by omega), wrap_id (x := t + hi - lo + 1) (by omega) (by omega), wrap_id (by omega) (by omega)]
    exact ⟨_, rfl, by omega, by omega⟩
  · rw [decide_eq_false hneg, cond_false, wrap_id (by omega) (by omega)]
    exact ⟨_, rfl, by omega, by omega⟩

/-! ### The leaves of 'beats' -/
def prefD (a : T36) : Int := bif a.2.2.2.2.2.1 then a.2.2.2.2.2.2.1 else 100
def medD (a : T36) : Int := bif a.2.2.2.1 then a.2.2.2.2.1 else 0
theorem Pref_eq (a : T36) : Pref.F (a, ()) = some (prefD a, ()) := by
  show Pref.b a = _
  unfold Pref.b prefD
  cases a.2.2.2.2.2.1 <;> rfl
theorem rPref_eq (a : T36) : rPref.F (a, ()) = some (prefD a, ()) := by
  show rPref.b a = _
  unfold rPref.b prefD
  cases a.2.2.2.2.2.1 <;> rfl
theorem med_eq (a : T36) : med.F (a, ()) = some (medD a, ()) := by
  show med.b a = _
  unfold med.b medD
  cases a.2.2.2.1 <;> rfl
theorem rmed_eq (a : T36) : rmed.F (a, ()) = some (medD a, ()) := by
  show rmed.b a = _
  unfold rmed.b medD
  cases a.2.2.2.1 <;> rfl
theorem cleans (x : Nat) : ∃ y, Clean.F (x, ()) = some (y, ()) ∧ rClean.F (x, ()) = some (y, ()) := by
  show ∃ y, Clean.b Right.F Inf.F x = some (y, ()) ∧ rClean.b rRight.F Inf.F x = some (y, ())
  unfold Clean.b rClean.b
  have e1 : Right.F (x, ()) = rRight.F (x, ()) := rfl
  have e2 : ∃ b, rRight.F (x, ()) = some (b, ()) := ⟨_, rfl⟩
  have e3 : Inf.F (1, ()) = some (9218868437227405312, ()) := rfl
  obtain ⟨b, hb⟩ := e2
  rw [e1, hb, e3]
  simp only [Option.bind_some]
  cases b with
  | false => exact ⟨_, rfl, rfl⟩
  | true =>
    simp only [Bool.not_true, cond_false]
    cases (Go.FloatKind.f64.format.order x (0 : Nat) == Option.some Ordering.eq) <;> exact ⟨_, rfl, rfl⟩
theorem lesses (x y : Nat) : ∃ b, Less.F (x, y, ()) = some (b, ()) ∧ rLess.F (x, y, ()) = some (b, ()) := by
  obtain ⟨u, hu1, hu2⟩ := cleans x
  obtain ⟨v, hv1, hv2⟩ := cleans y
  show ∃ b, Less.b Clean.F x y = some (b, ()) ∧ rLess.b rClean.F x y = some (b, ())
  unfold Less.b rLess.b
  rw [hu1, hv1, hu2, hv2]
  exact ⟨_, rfl, rfl⟩
theorem firsts (l : List T71) : ∃ x b, First.F (l, ()) = some (x, b, ()) ∧ rFirst.F (l, ()) = some (x, b, ()) := by
  show ∃ x b, First.b l = some (x, b, ()) ∧ rFirst.b l = some (x, b, ())
  have e : First.b = rFirst.b := rfl
  rw [e]
  suffices ∃ x b, rFirst.b l = some (x, b, ()) by
    obtain ⟨x, b, h⟩ := this
    exact ⟨x, b, h, h⟩
  unfold rFirst.b
  match l with
  | [] => exact ⟨_, _, rfl⟩
  | s :: r =>
    have h0 : ((((s :: r).length : Nat) : Int) == 0) = false := by simp <;> omega
    have h1 : decide ((0 : Int) < (((s :: r).length : Nat) : Int)) = true := decide_eq_true (by simp <;> omega)
    rw [h0, h1]
    simp only [cond_false, cond_true, List.getD_cons_zero]
    cases (s.1 != 2) with
    | true => exact ⟨_, _, rfl⟩
    | false =>
      simp only [cond_false]
      obtain ⟨k, l2⟩ := s
      match l2 with
      | [] => exact ⟨_, _, rfl⟩
      | x :: r2 =>
        have h2 : ((((x :: r2).length : Nat) : Int) == 0) = false := by simp <;> omega
        have h3 : decide ((0 : Int) < (((x :: r2).length : Nat) : Int)) = true := decide_eq_true (by simp <;> omega)
        simp only [h2, h3, cond_false, cond_true]
        exact ⟨_, _, rfl⟩
theorem fellows_eq (a b : T36) : ∃ r, fellows.F (a, b, ()) = some (r, ()) ∧ neighbour.F (a, b, ()) = some (r, ()) := by
  obtain ⟨x, p, h1, h2⟩ := firsts a.2.1
  obtain ⟨y, q, h3, h4⟩ := firsts b.2.1
  show ∃ r, fellows.b First.F a b = some (r, ()) ∧ neighbour.b rFirst.F a b = some (r, ())
  unfold fellows.b neighbour.b
  rw [h1, h2, h3, h4]
  simp only [Option.bind_some]
  cases (p == q) <;> exact ⟨_, rfl, rfl⟩
/-! Count -/
def cntStep (n : Int) (s : T71) : Int := if s.1 = 2 then IntKind.i64.wrap (n + (s.2.length : Nat)) else if s.1 = 1 then IntKind.i64.wrap (n + 1) else n
theorem drop_getD {α : Type} {l : List α} {i : Nat} (h : i < l.length) (d : α) : l.drop i = l.getD i d :: l.drop (i + 1) := by
  rw [List.drop_eq_getElem_cons h, List.getD_eq_getElem?_getD, List.getElem?_eq_getElem h]
  rfl
theorem Count_eq (l : List T71) (hl : l.length < 4611686018427387904) : Count.F (l, ()) = some (l.foldl cntStep 0, ()) := by
  show Count.l3 FU l FU (0, (l.length : Nat), 0) = _
  unfold Count.l3
  rw [iterN_eq (F := fun s : Int × Int × Int => some ((l.drop s.2.2.toNat).foldl cntStep s.1, ())) (fun s : Int × Int × Int => s.2.1 = ((l.length : Nat) : Int) ∧ ∃ i : Nat, s.2.2 = (i : Int) ∧ i ≤ l.length) (fun s : Int × Int × Int => l.length - s.2.2.toNat)]
  · rfl
  · rintro ⟨n, len, idx⟩ k ⟨hlen, i, hi, hle⟩ hk
    have hlen : len = ((l.length : Nat) : Int) := hlen
    have hi : idx = (i : Nat) := hi
    subst hlen hi
    unfold Count.b3
    simp only
    by_cases hlt : i < l.length
    · rw [decide_eq_true (show (i : Int) < (l.length : Nat) by omega), decide_eq_true (show (0 : Int) ≤ (i : Nat) by omega)]
      simp only [cond_true, Bool.and_self, Int.toNat_natCast]
      have hd := drop_getD hlt ty71.dflt
      have hw := wrap_succ hlt hl
      have key : ∀ n', k (n', ((l.length : Nat) : Int), IntKind.i64.wrap ((i : Int) + 1)) = some ((l.drop (i + 1)).foldl cntStep n', ()) := fun n' => by
        rw [hw, hk _ ⟨rfl, i + 1, rfl, hlt⟩ (by simp; omega)]
        simp
      rw [key, key, key, hd, List.foldl_cons]
      unfold cntStep
      by_cases h2 : (l.getD i ty71.dflt).1 = 2
      · rw [show ((l.getD i ty71.dflt).1 == 2) = true from by simpa using h2, cond_true, if_pos h2]
      · rw [show ((l.getD i ty71.dflt).1 == 2) = false from by simpa using h2, cond_false, if_neg h2]
        by_cases h1 : (l.getD i ty71.dflt).1 = 1
        · rw [show ((l.getD i ty71.dflt).1 == 1) = true from by simpa using h1, cond_true, if_pos h1]
        · rw [show ((l.getD i ty71.dflt).1 == 1) = false from by simpa using h1, cond_false, if_neg h1]
    · rw [decide_eq_false (show ¬ (i : Int) < (l.length : Nat) by omega)]
      have : i = l.length := by omega
      subst this
      simp
  · exact ⟨rfl, 0, rfl, Nat.zero_le _⟩
  · exact FU_lt (by simp; omega)
end BE
