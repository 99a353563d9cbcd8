/- What the evaluation knows of a program is so; loops as rounds. -/
import Derived.Test.YtdchhhedpipeiaaEvUK
set_option linter.unusedVariables false
set_option linter.unusedSimpArgs false
namespace Go.Ev
open Go.RowKit

theorem zeroLeaf_rep {w : World} {S : Nat → Prop} {t : Ty} {v : Value} (h : zeroLeaf t v = true) : Rep w S t t.dflt [v] := by
  cases t <;> cases v <;> simp only [zeroLeaf, Bool.and_eq_true, decide_eq_true_eq, Bool.not_eq_true', Option.isNone_iff_eq_none, reduceCtorEq, Bool.false_eq_true] at h
  · obtain ⟨rfl, rfl⟩ := h; rfl
  · subst h; rfl
  · obtain ⟨rfl, rfl⟩ := h; rfl
  · subst h; rfl
  · obtain ⟨⟨rfl, rfl⟩, rfl⟩ := h
    exact ⟨none, 0, rfl, Nat.le_refl _, fun i x hx => by simp [Ty.dflt] at hx⟩
theorem takeLeaf_rep {w : World} {S : Nat → Prop} {t : Ty} {l r : List Value} (h : takeLeaf t l = some r) : ∃ c, l = c ++ r ∧ Rep w S t t.dflt c := by
  cases l with
  | nil => cases h
  | cons v l =>
    simp only [takeLeaf] at h
    cases hz : zeroLeaf t v with
    | false => rw [hz] at h; cases h
    | true =>
      rw [hz] at h
      injection h with h
      subst h
      exact ⟨[v], rfl, zeroLeaf_rep hz⟩
theorem zeroTake_rep {w : World} {S : Nat → Prop} : ∀ {t : Ty} {l r : List Value}, zeroTake t l = some r → ∃ c, l = c ++ r ∧ Rep w S t t.dflt c
  | .unit, l, r, h => by
    simp only [zeroTake, Option.some.injEq] at h
    exact ⟨[], by simp [h], rfl⟩
  | .one a, l, r, h => by
    simp only [zeroTake] at h
    obtain ⟨c, h1, h2⟩ := zeroTake_rep h
    exact ⟨c, h1, h2⟩
  | .pair a b, l, r, h => by
    simp only [zeroTake] at h
    split at h
    · rename_i m hm
      obtain ⟨c, h1, h2⟩ := zeroTake_rep hm
      obtain ⟨d, h3, h4⟩ := zeroTake_rep h
      exact ⟨c ++ d, by rw [h1, h3, List.append_assoc], c, d, rfl, h2, h4⟩
    · cases h
  | .int k, l, r, h => takeLeaf_rep h
  | .bool, l, r, h => takeLeaf_rep h
  | .f64, l, r, h => takeLeaf_rep h
  | .str, l, r, h => takeLeaf_rep h
  | .sl e, l, r, h => takeLeaf_rep h

theorem sized_some {n m : Nat} {u v : Ty} (h : sized n m u = some v) : n = m ∧ u = v := by
  unfold sized at h
  cases hb : Nat.beq n m with
  | false => rw [hb] at h; cases h
  | true => rw [hb] at h; injection h with h; exact ⟨Nat.eq_of_beq_eq_true hb, h⟩

variable {P : Program}
theorem tyOf_ok : ∀ (d : Nat) (T : TypeId) (u : Ty), tyOf P d T = some u → TyOk P u T
  | 0, T, u, h => by cases h
  | d + 1, T, u, h => by
    simp only [tyOf] at h
    split at h
    · cases h
    · rename_i i hi
      have hs : ∀ n, i.size = n → SizeIs P T n := fun n hn => by unfold SizeIs; rw [hi]; simp [hn]
      split at h
      · rename_i k hu
        obtain ⟨h1, rfl⟩ := sized_some h
        exact ⟨hu, hs _ h1⟩
      · rename_i hu
        obtain ⟨h1, rfl⟩ := sized_some h
        exact ⟨hu, hs _ h1⟩
      · rename_i hu
        obtain ⟨h1, rfl⟩ := sized_some h
        exact ⟨hu, hs _ h1⟩
      · rename_i hu
        obtain ⟨h1, rfl⟩ := sized_some h
        exact ⟨hu, hs _ h1⟩
      · rename_i te hu
        split at h
        · rename_i e he
          split at h
          · rename_i z hz
            split at h
            · rename_i hzt
              cases hb : Nat.ble e.lb (P.bytesOf te) && Nat.ble 1 e.size with
              | false => rw [hb] at h; cases h
              | true =>
              rw [hb] at h
              obtain ⟨h1, rfl⟩ := sized_some h
              refine ⟨hs _ h1, te, hu, tyOf_ok d te e he, z, hz, fun w S => ?_⟩
              obtain ⟨c, h3, h4⟩ := zeroTake_rep (w := w) (S := S) hzt
              rw [List.append_nil] at h3
              rw [h3]
              exact h4
            · cases h
          · cases h
        · cases h
      · rename_i fs hu
        split at h
        · rename_i l hl
          obtain ⟨h1, rfl⟩ := sized_some h
          match l, h1 with
          | [], h1 => exact ⟨hs _ h1, fs, hu⟩
          | [a], h1 => exact ⟨hs _ h1, fs, hu⟩
          | a :: b :: r, h1 => exact ⟨hs _ h1, fs, hu⟩
        · cases h
      · cases h

theorem envOf_ok {tr : Bool} (call : FuncId → Option Spec) (ext : FuncId → Option (Nat → List Slot → Store → Option ExtR)) (hint : Nat → Option (List (Nat × Option Ty))) (hc : ∀ f sp, call f = some sp → Entered P f ∧ Pure tr P f sp)
    (hx : ∀ f X, ext f = some X → Entered P f ∧ ExtOk tr P f X ∧ ExtLocal X) : EnvOk tr P (envOf P call ext hint) where
  ty T u h := tyOf_ok 12 T u h
  bytes T n h te hu := by
    simp only [envOf, bytesOf, hu] at h
    split at h
    · rename_i i hi
      cases hb : Nat.beq i.bytes 0 with
      | true => rw [hb] at h; cases h
      | false =>
        rw [hb] at h
        injection h with h
        subst h
        exact ⟨by rw [hi]; rfl, Nat.pos_of_ne_zero fun h0 => by rw [h0] at hb; cases hb⟩
    · cases h
  shape T n g h := by
    simp only [envOf, shapeOf] at h
    split at h
    · rename_i i hi
      split at h
      · rename_i d hd
        injection h with h
        injection h with h1 h2
        refine ⟨by unfold SizeIs; rw [hi]; exact congrArg some h1, ?_⟩
        unfold AggIs
        rw [hd]
        subst h2
        cases d <;> rfl
      · cases h
    · cases h
  fld T i off n h := by
    simp only [envOf, fldOf] at h
    split at h
    · rename_i fs hu
      split at h
      · rename_i f hf
        split at h
        · rename_i j hj
          cases hb : Nat.beq j.size 0 with
          | true => rw [hb] at h; cases h
          | false =>
            rw [hb] at h
            injection h with h
            injection h with h1 h2
            subst h1 h2
            refine ⟨fun h0 => ?_, fs, f, hu, hf, rfl, ?_⟩
            · rw [h0] at hb; cases hb
            · unfold SizeIs; rw [hj]; rfl
        · cases h
      · cases h
    · cases h
  strct T h := by
    simp only [envOf, strctOf] at h
    split at h
    · rename_i fs hu
      refine ⟨fs, hu, fun f hf => ?_⟩
      have := List.all_eq_true.1 h f hf
      obtain ⟨i, hi⟩ := Option.isSome_iff_exists.1 this
      exact ⟨i.size, by unfold SizeIs; rw [hi]; rfl⟩
    · cases h
  zero T cs h := by
    simp only [envOf, zeroOf] at h
    split at h
    · rename_i v hv
      exact ⟨v, hv, fun w S hv => constAVs_rep h⟩
    · cases h
  eqt T u h := by
    simp only [envOf, eqOf] at h
    split at h
    · rename_i u' hu
      cases hb : (u'.isAgg || u'.isBool) && !P.eqGuardType P.depth T with
      | false => rw [hb] at h; cases h
      | true =>
        rw [hb] at h
        injection h with h
        subst h
        rw [Bool.and_eq_true, Bool.or_eq_true, Bool.not_eq_true'] at hb
        obtain ⟨hb1, hb2⟩ := hb
        have hk := key_ok hu
        refine ⟨?_, fun w S x y c cx cy hx hy he => ?_⟩
        · rcases hb1 with h | h
          · exact .inr h
          · cases u' <;> first | exact .inl rfl | cases h
        · rw [eqDen_keyed x y hk.keyed] at he
          injection he with he
          subst he
          refine ⟨hk.eq w S x y cx cy hx hy, fun op o1 o2 => ?_⟩
          rcases hb1 with h | h
          · unfold mkVal
            rw [h]
            unfold eqGuard
            cases op <;> simp [run_program, Sem.run_bind, Sem.run_ite, Result.andThen_ok, hb2]
          · cases u' <;> first | cases h | skip
            have hx : _ = _ := hx
            have hy : _ = _ := hy
            subst hx hy
            show (eqGuard op T o1 o2 (.bool x) (.bool y)).run P w = _
            unfold eqGuard
            cases op <;> rfl
    · cases h
  mapT T k v h := by
    simp only [envOf, mapOf] at h
    split at h
    · rename_i tk tv hu
      split at h
      · rename_i k' hk
        split at h
        · rename_i v' hv
          split at h
          · rename_i z hz
            cases hb : zeroFits v' z with
            | false => rw [hb] at h; cases h
            | true =>
              rw [hb] at h
              injection h with h
              injection h with h1 h2
              subst h1 h2
              refine ⟨tk, tv, z, hu, key_ok hk, tyOf_ok _ _ _ hv, hz, fun w S => ?_⟩
              unfold zeroFits at hb
              split at hb
              · rename_i hzt
                obtain ⟨c, h3, h4⟩ := zeroTake_rep (w := w) (S := S) hzt
                rw [List.append_nil] at h3
                refine ⟨c, h4, ?_⟩
                rw [← h3]
                unfold mkVal
                split at hb
                · rw [if_pos hb]
                  rfl
                · cases hb
                · rename_i hna hnt
                  rw [Bool.not_eq_true'] at hb
                  rw [hb]
                  cases z <;> first | rfl | (exact absurd rfl (hna _)) | (exact absurd rfl (hnt _))
              · cases hb
          · cases h
        · cases h
      · cases h
    · cases h
  call := hc
  ext := hx

theorem pick_mem {α : Type _} {l : List (Nat × α)} {f : Nat} {a : α} (h : pick l f = some a) : (f, a) ∈ l := by
  induction l with
  | nil => cases h
  | cons p r ih =>
    obtain ⟨j, s⟩ := p
    simp only [pick] at h
    cases hb : Nat.beq j f with
    | true =>
      rw [hb] at h
      injection h with h
      subst h
      have := Nat.eq_of_beq_eq_true hb
      subst this
      exact List.mem_cons_self
    | false =>
      rw [hb] at h
      exact List.mem_cons_of_mem _ (ih h)
theorem pick_ok {tr : Bool} {call : List (Nat × Spec)} (h : ∀ p ∈ call, Entered P p.1 ∧ Pure tr P p.1 p.2) : ∀ f sp, pick call f = some sp → Entered P f ∧ Pure tr P f sp := fun f sp hp => h _ (pick_mem hp)
theorem pick_ext {tr : Bool} {ext : List (Nat × (Nat → List Slot → Store → Option ExtR))} (h : ∀ p ∈ ext, Entered P p.1 ∧ ExtOk tr P p.1 p.2 ∧ ExtLocal p.2) : ∀ f X, pick ext f = some X → Entered P f ∧ ExtOk tr P f X ∧ ExtLocal X := fun f X hp => h _ (pick_mem hp)

theorem entered_of {f : FuncId} {fn : Func} (hf : P.funcs[f]? = some fn) (hn : (fn.name == "runtime.NumGoroutine") = false) {c : Code} (hb : fn.body = some c) : Entered P f := by
  intro args w
  simp [callFunc, hf, beq_eq_false_iff_ne.1 hn, hb]

variable {R σ : Type} {E : Env} {fuel id : Nat} {c : Code}
/-- A loop, round by round. -/
theorem loop_iter {K : Ex → St → Option R} {mk : σ → St} {B : (σ → Option R) → σ → Option R} (h : ∀ (k : St → Option R) (s : σ), bodyAt E fuel id c K k (mk s) = B (fun t => k (mk t)) s) : ∀ n s, loopAt E fuel id c K n (mk s) = iterN B n s := by
  unfold bodyAt at h
  unfold loopAt
  split
  · rename_i body K' hs
    simp only [hs] at h
    intro n
    induction n with
    | zero => intro s; rfl
    | succ n ih =>
      intro s
      simp only [loopN, iterN]
      rw [← funext ih]
      exact h _ s
  · rename_i hs
    simp only [hs] at h
    intro n
    induction n with
    | zero => intro s; rfl
    | succ n ih =>
      intro s
      simp only [iterN]
      rw [← funext ih]
      exact h (fun _ => none) s
end Go.Ev
