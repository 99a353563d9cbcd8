/- Keys and '==' by parts, out of a program's own tables. -/
import Derived.Test.YtdchhhedpipeiaaEvKM
import Derived.Test.YtdchhhedpipeiaaEvW
import Derived.Test.YtdchhhedpipeiaaEvT
set_option linter.unusedVariables false
set_option linter.unusedSimpArgs false
namespace Go.Ev
open Go.RowKit

variable {P : Program}

theorem sized_some' {n m : Nat} {u v : Ty} (h : sized n m u = some v) : n = m ∧ u = v := by
  unfold sized at h
  cases hb : Nat.beq n m with
  | false => rw [hb] at h; cases h
  | true => rw [hb] at h; injection h with h; exact ⟨Nat.eq_of_beq_eq_true hb, h⟩

/-- The fields' data: a row of parts. -/
theorem allOf_cons {g : TypeId → Option Ty} {o : Nat} {f : Field} {r : List Field} {l : List Ty} (h : allOf g o (f :: r) = some l) : ∃ a l', l = a :: l' ∧ g f.type = some a ∧ f.offset = o ∧ allOf g (o + a.size) r = some l' := by
  simp only [allOf] at h
  split at h
  · rename_i a ha
    cases hb : Nat.beq f.offset o with
    | false => rw [hb] at h; cases h
    | true =>
      rw [hb] at h
      simp only [cond_true] at h
      split at h
      · rename_i l' hl
        injection h with h
        exact ⟨a, l', h.symm, ha, Nat.eq_of_beq_eq_true hb, hl⟩
      · cases h
  · cases h

theorem keyTy_ok : ∀ (d : Nat) (T : TypeId) (u : Ty), keyTy P d T = some u → TyOk P u T ∧ u.keyed = true
  | 0, T, u, h => by cases h
  | d + 1, T, u, h => by
    simp only [keyTy] at h
    split at h
    · cases h
    · rename_i i hi
      have hs : ∀ n, i.size = n → SizeIs P T n := fun n hn => by unfold SizeIs; rw [hi]; simp [hn]
      split at h
      · rename_i k hu
        obtain ⟨h1, rfl⟩ := sized_some' h
        exact ⟨⟨hu, hs _ h1⟩, rfl⟩
      · rename_i hu
        obtain ⟨h1, rfl⟩ := sized_some' h
        exact ⟨⟨hu, hs _ h1⟩, rfl⟩
      · rename_i hu
        obtain ⟨h1, rfl⟩ := sized_some' h
        exact ⟨⟨hu, hs _ h1⟩, rfl⟩
      · rename_i fs hu
        cases hb : (P.stoodInHeld T || fs.toList.any (fun f => f.name == "_")) with
        | true => rw [hb] at h; cases h
        | false =>
          rw [hb] at h
          simp only [cond_false] at h
          split at h
          · rename_i l hl
            obtain ⟨h1, rfl⟩ := sized_some' h
            have hk : ∀ (fs : List Field) (o : Nat) (l : List Ty), allOf (keyTy P d) o fs = some l → ∀ a ∈ l, a.keyed = true := by
              intro fs
              induction fs with
              | nil => intro o l h a ha; simp only [allOf, Option.some.injEq] at h; subst h; cases ha
              | cons f r ih =>
                intro o l h a ha
                obtain ⟨b, l', rfl, g1, _, g2⟩ := allOf_cons h
                rcases List.mem_cons.1 ha with rfl | ha
                · exact (keyTy_ok d _ _ g1).2
                · exact ih _ _ g2 a ha
            have hkl := hk _ _ _ hl
            have hpr : ∀ (l : List Ty) (a : Ty), a.keyed = true → (∀ b ∈ l, b.keyed = true) → (packR a l).keyed = true := by
              intro l
              induction l with
              | nil => intro a ha _; exact ha
              | cons b r ih => intro a ha hb; simp only [packR, Ty.keyed, Bool.and_eq_true]; exact ⟨ha, ih b (hb b (by simp)) fun c hc => hb c (by simp [hc])⟩
            match l, h1, hkl with
            | [], h1, _ => exact ⟨⟨hs _ h1, fs, hu⟩, rfl⟩
            | [a], h1, hk => exact ⟨⟨hs _ h1, fs, hu⟩, hk a (by simp)⟩
            | a :: b :: r, h1, hk => exact ⟨⟨hs _ h1, fs, hu⟩, hpr (b :: r) a (hk a (by simp)) fun c hc => hk c (by simp at hc ⊢; exact .inr hc)⟩
          · cases h
      · cases h

theorem run_part {w w' : World} {S : Nat → Prop} {u : Ty} {T : TypeId} (ok : TyOk P u T) {x : u.den} {c rest : List Value} (hr : Rep w S u x c) {cs : Array Value} {off : Nat} (hc : cs.toList.drop off = c ++ rest) : (part T cs off).run P w' = .ok (mkVal u c) w' := by
  have hl := hr.length
  have hsz := ok.size
  simp only [part, Sem.run_bind, run_isAgg ok.agg, Result.andThen_ok]
  unfold mkVal
  cases hg : u.isAgg with
  | true =>
    simp only [if_true, Sem.run_bind, run_sizeOf hsz, Result.andThen_ok, Sem.run_pure]
    have : cs.extract off (off + u.size) = c.toArray := by
      rw [← Array.toArray_toList (xs := cs.extract off (off + u.size)), Array.toList_extract, List.extract_eq_take_drop, hc, Nat.add_sub_cancel_left, ← hl, List.take_left']
      rfl
    rw [this]
  | false =>
    simp only [Bool.false_eq_true, if_false]
    have h1 : ∃ v, c = [v] := by
      have : u.size = 1 := by cases u <;> first | rfl | cases hg
      rw [this] at hl
      exact List.length_eq_one_iff.1 hl
    obtain ⟨v, rfl⟩ := h1
    have : cs[off]? = some v := by
      rw [← Array.getElem?_toList, ← Nat.add_zero off, ← List.getElem?_drop, hc]
      rfl
    rw [this]
    rfl

theorem keyEq_one {a : Ty} (x y : a.den) : keyEq (.one a) x y = keyEq a x y := rfl

theorem part_split {w : World} {S : Nat → Prop} {a b : Ty} {x : (Ty.pair a b).den} {cx : List Value} (h : Rep w S (.pair a b) x cx) {cs : Array Value} {off : Nat} (hc : cs.toList.drop off = cx) :
    ∃ c1 c2, Rep w S a x.1 c1 ∧ Rep w S b x.2 c2 ∧ cs.toList.drop off = c1 ++ c2 ∧ cs.toList.drop (off + a.size) = c2 := by
  obtain ⟨c1, c2, rfl, h1, h2⟩ := h
  refine ⟨c1, c2, h1, h2, hc, ?_⟩
  rw [← List.drop_drop, hc, ← h1.length, List.drop_left']
  rfl

mutual
theorem keyTy_eq {w w' : World} {S S' : Nat → Prop} : ∀ (d : Nat) (T : TypeId) (u : Ty), keyTy P d T = some u → ∀ (x y : u.den) (cx cy : List Value), Rep w S u x cx → Rep w S' u y cy → ∀ n, d ≤ n → (Op.equalIn n T (mkVal u cx) (mkVal u cy)).run P w' = .ok (keyEq u x y) w'
  | 0, T, u, h, _, _, _, _, _, _, _, _ => by cases h
  | d + 1, T, u, h, x, y, cx, cy, hx, hy, n, hn => by
    obtain ⟨m, rfl⟩ : ∃ m, n = m + 1 := ⟨n - 1, by omega⟩
    simp only [keyTy] at h
    split at h
    · cases h
    · rename_i i hi
      split at h
      · rename_i k hu
        obtain ⟨_, rfl⟩ := sized_some' h
        have hx : _ = _ := hx
        have hy : _ = _ := hy
        subst hx hy
        exact run_equalIn_int w' m T k k x y hu
      · rename_i hu
        obtain ⟨_, rfl⟩ := sized_some' h
        have hx : _ = _ := hx
        have hy : _ = _ := hy
        subst hx hy
        exact run_equalIn_bool' w' m T x y hu
      · rename_i hu
        obtain ⟨_, rfl⟩ := sized_some' h
        have hx : _ = _ := hx
        have hy : _ = _ := hy
        subst hx hy
        have := run_equalIn_string w' m T x y hu
        rw [← beq_toListBytes] at this
        exact this
      · rename_i fs hu
        cases hb : (P.stoodInHeld T || fs.toList.any (fun f => f.name == "_")) with
        | true => rw [hb] at h; cases h
        | false =>
          rw [hb] at h
          rw [Bool.or_eq_false_iff] at hb
          simp only [cond_false] at h
          split at h
          · rename_i l hl
            obtain ⟨_, rfl⟩ := sized_some' h
            have hf : P.fieldsOf T = fs := by unfold Program.fieldsOf; rw [hu]
            have hagg : (packTy l).isAgg = true := by
              match l with
              | [] => rfl
              | [_] => rfl
              | _ :: _ :: _ => rfl
            have hm : ∀ c, mkVal (packTy l) c = .agg c.toArray := fun c => by unfold mkVal; rw [hagg]; rfl
            have hnm : ∀ f ∈ fs.toList, f.name ≠ "_" := fun f hf => by
              have := List.any_eq_false.1 hb.2 f hf
              simpa using this
            rw [hm, hm, run_equalIn_struct w' m T _ _ (by rw [hf]; exact hu) hb.1, hf]
            exact fields_eq d fs.toList l hl hnm x y cx cy hx hy m (by omega)
          · cases h
      · cases h
termination_by d => (d, 0)

theorem fields_eq {w w' : World} {S S' : Nat → Prop} (d : Nat) (fs : List Field) (l : List Ty) (hl : allOf (keyTy P d) 0 fs = some l) (hnm : ∀ f ∈ fs, f.name ≠ "_") (x y : (packTy l).den) (cx cy : List Value) (hx : Rep w S (packTy l) x cx) (hy : Rep w S' (packTy l) y cy) (m : Nat) (hm : d ≤ m) :
    (Op.eqFields m cx.toArray cy.toArray fs).run P w' = .ok (keyEq (packTy l) x y) w' := by
  have main : ∀ (fs : List Field) (f : Field) (o : Nat) (l : List Ty) (a : Ty), allOf (keyTy P d) o (f :: fs) = some (a :: l) → (∀ g ∈ f :: fs, g.name ≠ "_") → ∀ (x y : (packR a l).den) (ex ey : List Value), Rep w S (packR a l) x ex → Rep w S' (packR a l) y ey →
      cx.toArray.toList.drop o = ex → cy.toArray.toList.drop o = ey → (Op.eqFields m cx.toArray cy.toArray (f :: fs)).run P w' = .ok (keyEq (packR a l) x y) w' := by
    intro fs
    induction fs with
    | nil =>
      intro f o l a hl hn x y ex ey hx hy h1 h2
      obtain ⟨a', l', hh, g1, g2, g3⟩ := allOf_cons hl
      injection hh with e1 e2
      subst e1 e2
      simp only [allOf, Option.some.injEq] at g3
      subst g3
      have ok := (keyTy_ok d _ _ g1).1
      have hn1 := hn f (by simp)
      simp only [Op.eqFields, Sem.run_ite, Sem.run_bind]
      rw [if_pos hn1, g2, run_part ok (rest := []) hx (by rw [h1, List.append_nil]), Result.andThen_ok, run_part ok (rest := []) hy (by rw [h2, List.append_nil]), Result.andThen_ok, keyTy_eq d _ _ g1 x y ex ey hx hy m hm, Result.andThen_ok]
      show _ = Result.ok (keyEq a x y) w'
      cases keyEq a x y <;> rfl
    | cons f2 fs ih =>
      intro f o l a hl hn x y ex ey hx hy h1 h2
      obtain ⟨a', l', hh, g1, g2, g3⟩ := allOf_cons hl
      injection hh with e1 e2
      subst e1 e2
      obtain ⟨b, l2, rfl, k1, k2, k3⟩ := allOf_cons g3
      have ok := (keyTy_ok d _ _ g1).1
      have hn1 := hn f (by simp)
      obtain ⟨c1, c2, q1, q2, q3, q4⟩ := part_split (a := a) (b := packR b l2) hx h1
      obtain ⟨d1, d2, r1, r2, r3, r4⟩ := part_split (a := a) (b := packR b l2) hy h2
      have ih' := ih f2 (o + a.size) l2 b g3 (fun g hg => hn g (List.mem_cons_of_mem _ hg)) x.2 y.2 c2 d2 q2 r2 q4 r4
      have hkey : (packR a (b :: l2)).keyed = true := by
        have hk : ∀ (fs : List Field) (o : Nat) (l : List Ty), allOf (keyTy P d) o fs = some l → ∀ a ∈ l, a.keyed = true := by
          intro fs
          induction fs with
          | nil => intro o l h a ha; simp only [allOf, Option.some.injEq] at h; subst h; cases ha
          | cons f r ih =>
            intro o l h a ha
            obtain ⟨b, l', rfl, g1, _, g2⟩ := allOf_cons h
            rcases List.mem_cons.1 ha with rfl | ha
            · exact (keyTy_ok d _ _ g1).2
            · exact ih _ _ g2 a ha
        have hpr : ∀ (l : List Ty) (a : Ty), (∀ b ∈ a :: l, b.keyed = true) → (packR a l).keyed = true := by
          intro l
          induction l with
          | nil => intro a hb; exact hb a (by simp)
          | cons b r ih => intro a hb; simp only [packR, Ty.keyed, Bool.and_eq_true]; exact ⟨hb a (by simp), ih b fun c hc => hb c (List.mem_cons_of_mem _ hc)⟩
        exact hpr (b :: l2) a (hk _ _ _ hl)
      have hsplit : keyEq (packR a (b :: l2)) x y = (keyEq a x.1 y.1 && keyEq (packR b l2) x.2 y.2) := keyEq_pair (a := a) (b := packR b l2) x y hkey
      rw [hsplit]
      unfold Op.eqFields
      simp only [Sem.run_ite, Sem.run_bind]
      rw [if_pos hn1, g2, run_part ok (rest := c2) q1 q3, Result.andThen_ok, run_part ok (rest := d2) r1 r3, Result.andThen_ok, keyTy_eq d _ _ g1 x.1 y.1 c1 d1 q1 r1 m hm, Result.andThen_ok]
      cases keyEq a x.1 y.1 with
      | false => rfl
      | true =>
        simp only [Bool.not_true, Bool.false_eq_true, if_false, Bool.true_and]
        exact ih'
  match fs, l, hl, x, y, hx, hy with
  | [], l, hl, x, y, hx, hy =>
    simp only [allOf, Option.some.injEq] at hl
    subst hl
    rfl
  | f :: fs, l, hl, x, y, hx, hy =>
    obtain ⟨a, l', rfl, _⟩ := allOf_cons hl
    match l', x, y, hx, hy, hl with
    | [], x, y, hx, hy, hl => exact main fs f 0 [] a hl hnm x y cx cy hx hy (by simp) (by simp)
    | b :: r, x, y, hx, hy, hl => exact main fs f 0 (b :: r) a hl hnm x y cx cy hx hy (by simp) (by simp)
termination_by (d, 1)
end

/-- The fields of a key, one by one. -/
def chkFields (e : Bool) (n : Nat) (cs : Array Value) : List Field → Sem Unit
  | [] => pure ()
  | f :: fs => do
    if f.name ≠ "_" then
      let v ← part f.type cs f.offset
      Instr.checkKey e n f.type v
    chkFields e n cs fs
theorem run_checkKey_struct {w : World} {e : Bool} {n : Nat} {T : TypeId} {fs : Array Field} {cs : Array Value} (hu : P.underlying T = some (.struct fs)) : (Instr.checkKey e (n + 1) T (.agg cs)).run P w = (chkFields e n cs fs.toList).run P w := by
  simp only [Instr.checkKey, Sem.run_bind, run_underlying hu, Result.andThen_ok]
  rw [← Array.forIn_toList]
  generalize fs.toList = l
  clear hu
  induction l generalizing w with
  | nil => simp [chkFields]
  | cons f fs ih =>
    simp only [List.forIn_cons, chkFields, Sem.run_bind, Sem.run_ite]
    split
    · generalize (part f.type cs f.offset).run P w = r1
      cases r1 with
      | ok a w1 =>
        simp only [Result.andThen_ok]
        generalize (Instr.checkKey e n f.type a).run P w1 = r2
        cases r2 with
        | ok b w2 =>
          simp only [Result.andThen_ok, Sem.run_pure]
          exact ih
        | halt x w2 => simp [Result.andThen]
      | halt x w1 => simp [Result.andThen]
    · simp only [Sem.run_pure, Result.andThen_ok]
      exact ih

mutual
theorem keyTy_chk {w w' : World} {S : Nat → Prop} {e : Bool} : ∀ (d : Nat) (T : TypeId) (u : Ty), keyTy P d T = some u → ∀ (x : u.den) (cx : List Value), Rep w S u x cx → ∀ n, d ≤ n → (Instr.checkKey e n T (mkVal u cx)).run P w' = .ok () w'
  | 0, T, u, h, _, _, _, _, _ => by cases h
  | d + 1, T, u, h, x, cx, hx, n, hn => by
    obtain ⟨m, rfl⟩ : ∃ m, n = m + 1 := ⟨n - 1, by omega⟩
    simp only [keyTy] at h
    split at h
    · cases h
    · rename_i i hi
      split at h
      · rename_i k hu
        obtain ⟨_, rfl⟩ := sized_some' h
        have hx : _ = _ := hx
        subst hx
        simp only [Instr.checkKey, Sem.run_bind, run_underlying hu, Result.andThen_ok]
        rfl
      · rename_i hu
        obtain ⟨_, rfl⟩ := sized_some' h
        have hx : _ = _ := hx
        subst hx
        simp only [Instr.checkKey, Sem.run_bind, run_underlying hu, Result.andThen_ok]
        rfl
      · rename_i hu
        obtain ⟨_, rfl⟩ := sized_some' h
        have hx : _ = _ := hx
        subst hx
        simp only [Instr.checkKey, Sem.run_bind, run_underlying hu, Result.andThen_ok]
        rfl
      · rename_i fs hu
        cases hb : (P.stoodInHeld T || fs.toList.any (fun f => f.name == "_")) with
        | true => rw [hb] at h; cases h
        | false =>
          rw [hb] at h
          rw [Bool.or_eq_false_iff] at hb
          simp only [cond_false] at h
          split at h
          · rename_i l hl
            obtain ⟨_, rfl⟩ := sized_some' h
            have hagg : (packTy l).isAgg = true := by
              match l with
              | [] => rfl
              | [_] => rfl
              | _ :: _ :: _ => rfl
            have hm : ∀ c, mkVal (packTy l) c = .agg c.toArray := fun c => by unfold mkVal; rw [hagg]; rfl
            have hnm : ∀ f ∈ fs.toList, f.name ≠ "_" := fun f hf => by
              have := List.any_eq_false.1 hb.2 f hf
              simpa using this
            rw [hm, run_checkKey_struct hu]
            exact fields_chk d fs.toList l hl hnm x cx hx m (by omega)
          · cases h
      · cases h
termination_by d => (d, 0)

theorem fields_chk {w w' : World} {S : Nat → Prop} {e : Bool} (d : Nat) (fs : List Field) (l : List Ty) (hl : allOf (keyTy P d) 0 fs = some l) (hnm : ∀ f ∈ fs, f.name ≠ "_") (x : (packTy l).den) (cx : List Value) (hx : Rep w S (packTy l) x cx) (m : Nat) (hm : d ≤ m) :
    (chkFields e m cx.toArray fs).run P w' = .ok () w' := by
  have main : ∀ (fs : List Field) (f : Field) (o : Nat) (l : List Ty) (a : Ty), allOf (keyTy P d) o (f :: fs) = some (a :: l) → (∀ g ∈ f :: fs, g.name ≠ "_") → ∀ (x : (packR a l).den) (ex : List Value), Rep w S (packR a l) x ex →
      cx.toArray.toList.drop o = ex → (chkFields e m cx.toArray (f :: fs)).run P w' = .ok () w' := by
    intro fs
    induction fs with
    | nil =>
      intro f o l a hl hn x ex hx h1
      obtain ⟨a', l', hh, g1, g2, g3⟩ := allOf_cons hl
      injection hh with e1 e2
      subst e1 e2
      simp only [allOf, Option.some.injEq] at g3
      subst g3
      have ok := (keyTy_ok d _ _ g1).1
      have hn1 := hn f (by simp)
      simp only [chkFields, Sem.run_ite, Sem.run_bind]
      rw [if_pos hn1, g2, run_part ok (rest := []) hx (by rw [h1, List.append_nil]), Result.andThen_ok, keyTy_chk d _ _ g1 x ex hx m hm, Result.andThen_ok]
      rfl
    | cons f2 fs ih =>
      intro f o l a hl hn x ex hx h1
      obtain ⟨a', l', hh, g1, g2, g3⟩ := allOf_cons hl
      injection hh with e1 e2
      subst e1 e2
      obtain ⟨b, l2, rfl, k1, k2, k3⟩ := allOf_cons g3
      have ok := (keyTy_ok d _ _ g1).1
      have hn1 := hn f (by simp)
      obtain ⟨c1, c2, q1, q2, q3, q4⟩ := part_split (a := a) (b := packR b l2) hx h1
      have ih' := ih f2 (o + a.size) l2 b g3 (fun g hg => hn g (List.mem_cons_of_mem _ hg)) x.2 c2 q2 q4
      unfold chkFields
      simp only [Sem.run_ite, Sem.run_bind]
      rw [if_pos hn1, g2, run_part ok (rest := c2) q1 q3, Result.andThen_ok, keyTy_chk d _ _ g1 x.1 c1 q1 m hm, Result.andThen_ok]
      exact ih'
  match fs, l, hl, x, hx with
  | [], l, hl, x, hx => rfl
  | f :: fs, l, hl, x, hx =>
    obtain ⟨a, l', rfl, _⟩ := allOf_cons hl
    match l', x, hx, hl with
    | [], x, hx, hl => exact main fs f 0 [] a hl hnm x cx hx (by simp)
    | b :: r, x, hx, hl => exact main fs f 0 (b :: r) a hl hnm x cx hx (by simp)
termination_by (d, 1)
end

theorem keyTy_und {d : Nat} {T : TypeId} {u : Ty} (h : keyTy P d T = some u) : ∃ ds, P.underlying T = some ds ∧ ∀ (w : World) (S : Nat → Prop) (x y : u.den) (cx cy : List Value) (c : Bool), Rep w S u x cx → Rep w S u y cy → Instr.sameNow ds (mkVal u cx) (mkVal u cy) = some c → c = keyEq u x y := by
  cases d with
  | zero => cases h
  | succ d =>
    simp only [keyTy] at h
    split at h
    · cases h
    · split at h
      · rename_i k hu
        obtain ⟨_, rfl⟩ := sized_some' h
        refine ⟨_, hu, fun w S x y cx cy c hx hy hc => ?_⟩
        have hx : _ = _ := hx
        have hy : _ = _ := hy
        subst hx hy
        have hc : Instr.sameNow (.int k) (.int k x) (.int k y) = some c := hc
        simp only [Instr.sameNow, if_true, Option.some.injEq] at hc
        exact hc.symm
      · rename_i hu
        obtain ⟨_, rfl⟩ := sized_some' h
        refine ⟨_, hu, fun w S x y cx cy c hx hy hc => ?_⟩
        have hx : _ = _ := hx
        have hy : _ = _ := hy
        subst hx hy
        have hc : Instr.sameNow .bool (.bool x) (.bool y) = some c := hc
        simp only [Instr.sameNow, Option.some.injEq] at hc
        exact hc.symm
      · rename_i hu
        obtain ⟨_, rfl⟩ := sized_some' h
        refine ⟨_, hu, fun w S x y cx cy c hx hy hc => ?_⟩
        have hx : _ = _ := hx
        have hy : _ = _ := hy
        subst hx hy
        have hc : Instr.sameNow .string (.string x) (.string y) = some c := hc
        simp only [Instr.sameNow, Option.some.injEq] at hc
        exact hc.symm
      · rename_i fs hu
        refine ⟨_, hu, fun w S x y cx cy c hx hy hc => ?_⟩
        unfold Instr.sameNow at hc
        split at hc <;> first | (rename_i heq _ _; cases heq; done) | (rename_i heq _ _ _; cases heq; done) | (cases hc; done)
      · cases h

theorem key_ok {T : TypeId} {u : Ty} (h : keyTy P 12 T = some u) : KeyOk P u T where
  keyed := (keyTy_ok _ _ _ h).2
  eq w S x y cx cy hx hy := keyTy_eq 12 T u h x y cx cy hx hy Op.maxDepth (by decide)
  und := keyTy_und h
  chk e w S x cx hx := keyTy_chk 12 T u h x cx hx 10000 (by decide)
end Go.Ev
