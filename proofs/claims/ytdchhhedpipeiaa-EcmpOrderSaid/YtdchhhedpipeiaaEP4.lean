/- Plain: shares of few. -/
import Derived.Test.YtdchhhedpipeiaaEP3
set_option linter.unusedVariables false
set_option linter.unusedSimpArgs false
namespace BE
open Go Go.Ev

/-! ### Small floats -/
def fl : Nat → Nat
  | 0 => 0
  | n + 1 => (FloatKind.f64.format.add (fl n) 4607182418800017408).getD 0
theorem fl_one : (4607182418800017408 : Nat) = fl 1 := by kernel_rfl
theorem fl_adds : (List.range 40).all (fun n => (FloatKind.f64.format.add (fl n) 4607182418800017408).isSome) = true := by kernel_rfl
theorem fl_add {n : Nat} (h : n < 40) : (FloatKind.f64.format.add (fl n) 4607182418800017408).isSome = true := List.all_eq_true.1 fl_adds n (List.mem_range.2 h)

/-! ### Shares of few -/
def comps : Nat → Nat → List (List Nat)
  | 0, _ => [[]]
  | f + 1, b => [] :: (List.range b).flatMap fun i => (comps f (b - (i + 1))).map fun c => (i + 1) :: c
theorem mem_comps : ∀ (f b : Nat) (c : List Nat), c.length ≤ f → (∀ x ∈ c, 1 ≤ x) → c.sum ≤ b → c ∈ comps f b
  | 0, _, [], _, _, _ => by simp [comps]
  | 0, _, _ :: _, h, _, _ => by simp at h
  | f + 1, b, [], _, _, _ => by simp [comps]
  | f + 1, b, x :: c, h, h1, h2 => by
    have hx := h1 x (by simp)
    simp only [List.sum_cons] at h2
    refine List.mem_cons_of_mem _ (List.mem_flatMap.2 ⟨x - 1, List.mem_range.2 (by omega), List.mem_map.2 ⟨c, ?_, ?_⟩⟩)
    · rw [show x - 1 + 1 = x from by omega]
      exact mem_comps f _ c (by simpa using h) (fun y hy => h1 y (by simp [hy])) (by omega)
    · rw [show x - 1 + 1 = x from by omega]
noncomputable def sharesN (n : Nat) (x : List Nat) : Option (List Int × Unit) :=
  Shares.f (fun x => counts.f (fun x => IsInf.f (fun _ => none) n x.1 x.2.1) n x.1) (fun x => sum.f n x.1) (fun x => IsInf.f (fun _ => none) n x.1 x.2.1) n x 16
noncomputable def rSharesN (n : Nat) (x : List Nat) : Option (List Int × Unit) :=
  rShares.f (fun x => IsInf.f (fun _ => none) n x.1 x.2.1) (fun x => total.f n x.1) n x 16
/-- The shares of counts. -/
noncomputable def shOf (c : List Nat) : List Int := match sharesN 100 (c.map fl) with
  | some (l, _) => l
  | none => []
noncomputable def okSh (m : Nat) (c : List Nat) : Bool :=
  decide (sharesN (m + 100) (c.map fl) = some (shOf c, ())) && decide (rSharesN (m + 100) (c.map fl) = some (shOf c, ())) && decide ((shOf c).length = c.length)
theorem shares_all (m : Nat) : (comps 8 8).all (okSh m) = true := by kernel_rfl
theorem shares_eq {c : List Nat} (h1 : ∀ x ∈ c, 1 ≤ x) (h2 : c.sum ≤ 8) : Shares.F (c.map fl, 16, ()) = some (shOf c, ()) ∧ rShares.F (c.map fl, 16, ()) = some (shOf c, ()) ∧ (shOf c).length = c.length := by
  have hl : c.length ≤ 8 := by
    have : ∀ c : List Nat, (∀ x ∈ c, 1 ≤ x) → c.length ≤ c.sum := by
      intro c
      induction c with
      | nil => simp
      | cons x c ih =>
        intro h
        have := h x (by simp)
        have := ih fun y hy => h y (by simp [hy])
        simp only [List.length_cons, List.sum_cons]
        omega
    have := this c h1
    omega
  obtain ⟨m, hm⟩ := FU_succ 100 (by omega)
  have := List.all_eq_true.1 (shares_all m) c (mem_comps 8 8 c hl h1 h2)
  unfold okSh at this
  simp only [Bool.and_eq_true, decide_eq_true_eq] at this
  refine ⟨?_, ?_, this.2⟩
  · show sharesN FU (c.map fl) = _
    rw [hm]
    exact this.1.1
  · show rSharesN FU (c.map fl) = _
    rw [hm]
    exact this.1.2

end BE
