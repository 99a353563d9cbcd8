/- Contracts and laws that the claim needs, packed from several texts. -/
import Derived.ChangeOld
import Derived.Deep.Slices
import Derived.Laws.Cover2
import Derived.SizedLaws
import Derived.WideShapes
import Derived.Test.YtkjhofadaoofcaaQc
section
set_option linter.unusedVariables false
set_option linter.unusedSimpArgs false
namespace Go.Ev
open Go.RowKit
def Wf : (t : Ty) → t.den → Prop
  | .int k, n => (Lit.int k n).wf = true
  | .bool, _ => True
  | .f64, b => (Lit.float .f64 b).wf = true
  | .str, s => s.size ≤ reachBytes
  | .unit, _ => True
  | .one a, x => Wf a x
  | .pair a b, x => Wf a x.1 ∧ Wf b x.2
  | .sl e, xs => List.length (α := e.den) xs * e.lb ≤ reachBytes ∧ ∀ x ∈ (show List e.den from xs), Wf e x
  | .box _, _ => False
  | .mp _ _, _ => False
  | .trie, _ => False
abbrev noBlock : Nat → Prop := fun _ => False
theorem exists_list {α : Type} {Q : Nat → α → Prop} : ∀ {n : Nat}, (∀ i, i < n → ∃ y, Q i y) → ∃ ys : List α, ys.length = n ∧ ∀ i y, ys[i]? = some y → Q i y
  | 0, _ => ⟨[], rfl, fun i y h => by simp at h⟩
  | n + 1, h => by
    obtain ⟨ys, h1, h2⟩ := exists_list (n := n) fun i hi => h i (by omega)
    obtain ⟨y, hy⟩ := h n (by omega)
    refine ⟨ys ++ [y], by simp [h1], fun i z hz => ?_⟩
    by_cases hi : i < n
    · exact h2 i z (by rwa [List.getElem?_append_left (by omega)] at hz)
    · rw [List.getElem?_append_right (by omega), h1] at hz
      have : i = n := by
        have := (List.getElem?_eq_some_iff.1 hz).1
        simp at this
        omega
      subst this
      simp at hz
      exact hz ▸ hy
theorem cells_get {w : World} {base : Nat} {a : Addr} {n : Nat} {cs : List Value} (h : w.cells? base a n = some cs) : cs.length = n ∧ ∀ (j : Nat) (c : Value), cs[j]? = some c → w.cell? (a.add j) = some c := by
  unfold World.cells? at h
  split at h
  · have key : ∀ (l : List Nat) (cs : List Value), (l.mapM fun i => w.cell? (a.add i)) = some cs → cs.length = l.length ∧ ∀ (j : Nat) (c : Value), cs[j]? = some c → ∃ i, l[j]? = some i ∧ w.cell? (a.add i) = some c := by
      intro l
      induction l with
      | nil =>
        intro cs h
        simp at h
        subst h
        exact ⟨rfl, fun j c hc => by simp at hc⟩
      | cons i l ih =>
        intro cs h
        rw [List.mapM_cons] at h
        simp only [Option.bind_eq_bind, Option.bind_eq_some_iff, Option.pure_def, Option.some.injEq] at h
        obtain ⟨v, hv, vs, hvs, rfl⟩ := h
        obtain ⟨h1, h2⟩ := ih vs hvs
        refine ⟨by simp [h1], fun j c hc => ?_⟩
        cases j with
        | zero => simp at hc; exact ⟨i, rfl, hc ▸ hv⟩
        | succ j => exact h2 j c (by simpa using hc)
    obtain ⟨h1, h2⟩ := key _ _ h
    refine ⟨by simpa using h1, fun j c hc => ?_⟩
    obtain ⟨i, hi, hc'⟩ := h2 j c hc
    have := List.getElem?_eq_some_iff.1 hi
    obtain ⟨hlt, he⟩ := this
    simp at he
    subst he
    exact hc'
  · cases h
variable {P : Program} {H : Type} {enc : TypeId × Value → H} {w : World} {held : Bool}
theorem trod_f64 {T : TypeId} {n : Nat} {cs : List Value} {x : DataW H × List MemPlace} (hu : P.underlying T = some (.float .f64)) (hx : DataW.trod enc P w 0 (fun _ => true) held n T cs = some x) : ∃ b, cs = [.float .f64 b] ∧ (Lit.float .f64 b).wf = true := by
  cases n with
  | zero => simp [DataW.trod] at hx
  | succ n =>
    unfold DataW.trod at hx
    rw [hu] at hx
    split at hx <;> simp_all
theorem fields_rep {g : TypeId → Option Ty} {n : Nat} (hsize : ∀ T u, g T = some u → P.cellsOf T = u.size)
    (hg : ∀ T u, g T = some u → ∀ cs x, DataW.trod enc P w 0 (fun _ => true) held n T cs = some x → (∀ m ∈ x.1.weights P T, m ≤ reachBytes) → ∃ y, Rep w noBlock u y cs ∧ Wf u y) {cs : List Value} :
    ∀ (fs : List Field) (f : Field) (o : Nat) (a : Ty) (l : List Ty) (xs : List (DataW H × List MemPlace)), allOf g o (f :: fs) = some (a :: l) → o + (packR a l).size = cs.length → xs.length = fs.length + 1 →
      (∀ (i : Nat) (f' : Field), (f :: fs)[i]? = some f' → DataW.trod enc P w 0 (fun _ => true) held n f'.type ((cs.drop f'.offset).take (P.cellsOf f'.type)) = xs[i]?) →
      (∀ m ∈ DataW.weightsEach P ((f :: fs).map (·.type)) (xs.map (·.1)), m ≤ reachBytes) →
      ∃ y, Rep w noBlock (packR a l) y (cs.drop o) ∧ Wf (packR a l) y := by
  intro fs
  induction fs with
  | nil =>
    intro f o a l xs hl hlen hx hf hw
    match xs, hx with
    | [x0], _ =>
      simp only [allOf] at hl
      split at hl
      · rename_i a' ha
        cases hb : Nat.beq f.offset o with
        | false => rw [hb] at hl; cases hl
        | true =>
          rw [hb] at hl
          have hoff := Nat.eq_of_beq_eq_true hb
          simp only [cond_true, Option.some.injEq, List.cons.injEq] at hl
          obtain ⟨rfl, rfl⟩ := hl
          have h0 := hf 0 f rfl
          simp only [packR] at hlen ⊢
          rw [hsize _ _ ha, hoff, List.take_of_length_le (by rw [List.length_drop]; omega)] at h0
          exact hg _ _ ha _ x0 (by simpa using h0) fun m hm => hw m (by simp [DataW.weightsEach, hm])
      · cases hl
  | cons f1 fs ih =>
    intro f o a l xs hl hlen hx hf hw
    match xs, hx with
    | x0 :: xs, hx =>
      rw [allOf] at hl
      split at hl
      · rename_i a' ha
        cases hb : Nat.beq f.offset o with
        | false => rw [hb] at hl; cases hl
        | true =>
          rw [hb] at hl
          simp only [cond_true] at hl
          have hoff := Nat.eq_of_beq_eq_true hb
          split at hl
          · rename_i l' hl'
            simp only [Option.some.injEq, List.cons.injEq] at hl
            obtain ⟨rfl, rfl⟩ := hl
            match l', hl' with
            | [], hl' =>
              simp only [allOf] at hl'
              split at hl'
              · cases hc : Nat.beq f1.offset (o + a'.size) with
                | false => rw [hc] at hl'; cases hl'
                | true =>
                  rw [hc] at hl'
                  simp only [cond_true] at hl'
                  split at hl' <;> cases hl'
              · cases hl'
            | b :: r, hl' =>
              simp only [packR, Ty.size] at hlen
              obtain ⟨y1, p1, p2⟩ := ih f1 (o + a'.size) b r xs hl' (by omega) (by simpa using hx) (fun i f' hi => by have := hf (i + 1) f' (by simpa using hi); simpa using this)
                (fun m hm => hw m (by simp only [List.map_cons, DataW.weightsEach, List.mem_append]; exact .inr (by simpa using hm)))
              have h0 := hf 0 f rfl
              rw [hsize _ _ ha, hoff] at h0
              obtain ⟨y0, q1, q2⟩ := hg _ _ ha _ x0 (by simpa using h0) fun m hm => hw m (by simp only [List.map_cons, DataW.weightsEach, List.mem_append]; exact .inl hm)
              refine ⟨(y0, y1), ⟨_, _, ?_, q1, p1⟩, q2, p2⟩
              rw [← List.drop_drop]
              exact (List.take_append_drop _ _).symm
          · cases hl
      · cases hl
theorem trod_rep : ∀ (d : Nat) (T : TypeId) (u : Ty), tyOf P d T = some u → ∀ (n : Nat) (cs : List Value) (x : DataW H × List MemPlace), DataW.trod enc P w 0 (fun _ => true) held n T cs = some x →
    (∀ m ∈ x.1.weights P T, m ≤ reachBytes) → ∃ y, Rep w noBlock u y cs ∧ Wf u y
  | 0, T, u, h => by cases h
  | d + 1, T, u, h => by
    intro n cs x hx hw
    simp only [tyOf] at h
    split at h
    · cases h
    · rename_i i hi
      split at h
      · rename_i k hu
        obtain ⟨h1, rfl⟩ := sized_some h
        obtain ⟨m, rfl, rfl, hwf⟩ := DataW.trod_int hu hx
        exact ⟨m, rfl, hwf⟩
      · rename_i hu
        obtain ⟨h1, rfl⟩ := sized_some h
        obtain ⟨b, rfl, rfl⟩ := DataW.trod_bool hu hx
        exact ⟨b, rfl, trivial⟩
      · rename_i hu
        obtain ⟨h1, rfl⟩ := sized_some h
        obtain ⟨b, rfl, hwf⟩ := trod_f64 hu hx
        exact ⟨b, rfl, hwf⟩
      · rename_i hu
        obtain ⟨h1, rfl⟩ := sized_some h
        obtain ⟨s, rfl, rfl, hs⟩ := DataW.trod_string hu hx
        refine ⟨s, rfl, ?_⟩
        have := hw s.data.toList.length (by simp only [DataW.weights, List.mem_singleton])
        rw [Array.length_toList] at this
        exact this
      · rename_i te hu
        split at h
        · rename_i e he
          split at h
          · rename_i z hz
            split at h
            · rename_i hzt
              cases hb : Nat.ble e.lb (P.bytesOf te) && Nat.ble 1 e.size with
              | false => rw [hb] at h; cases h
              | true =>
              rw [hb] at h
              obtain ⟨h1, rfl⟩ := sized_some h
              simp only [Bool.and_eq_true, Nat.ble_eq] at hb
              obtain ⟨b1, b2⟩ := hb
              have hcell : P.cellsOf te = e.size := by
                have := (tyOf_ok d te e he).size
                unfold SizeIs at this
                simp [Program.cellsOf, this]
              rcases Deep.open_slice hu hx with ⟨rfl, rfl⟩ | ⟨a, len, cap, m, n', D, Pl, rfl, hb, hl, hm, hmm, rfl, hall⟩
              · exact ⟨([] : List e.den), ⟨none, 0, rfl, Nat.le_refl _, fun i x hx => by simp at hx⟩, by simp, fun x hx => by simp at hx⟩
              · simp only [if_true] at hmm
                subst hmm
                rw [hcell] at hall
                have hlist : ∃ ys : List e.den, ys.length = len ∧ ∀ i y, ys[i]? = some y → (∃ cs', w.cells? 0 (a.add (i * e.size)) e.size = some cs' ∧ Rep w noBlock e y cs') ∧ Wf e y := by
                  refine exists_list fun i hi => ?_
                  obtain ⟨cs', hc, ht⟩ := hall i (by omega)
                  have hq : ∀ q ∈ (D i).weights P te, q ≤ reachBytes := by
                    intro q hq
                    refine hw q ?_
                    simp only [DataW.weights, hu]
                    refine List.mem_cons_of_mem _ (List.mem_append_left _ ?_)
                    have : ∀ (l : List (DataW H)) (d : DataW H), d ∈ l → ∀ q ∈ d.weights P te, q ∈ DataW.weightsAll P te l := by
                      intro l
                      induction l with
                      | nil => intro d hd; cases hd
                      | cons c l ih =>
                        intro d hd q hq
                        rcases List.mem_cons.1 hd with rfl | hd
                        · simp [DataW.weightsAll, hq]
                        · simp [DataW.weightsAll, ih d hd q hq]
                    exact this _ (D i) (List.mem_map.2 ⟨i, by simpa using hi, rfl⟩) q hq
                  obtain ⟨y, hr, hwf⟩ := trod_rep d te e he n' cs' _ ht hq
                  exact ⟨y, ⟨cs', hc, hr⟩, hwf⟩
                obtain ⟨ys, hlen, hys⟩ := hlist
                refine ⟨ys, ⟨some a, m, by rw [hlen], by omega, fun i y hi => ?_⟩, ?_, fun y hy => ?_⟩
                · change ys[i]? = some y at hi
                  obtain ⟨⟨cs', hc, hr⟩, _⟩ := hys i y hi
                  obtain ⟨c1, c2⟩ := cells_get hc
                  have h0 : ∃ b o, a = ⟨b, o, none⟩ := by
                    have hilt : 0 < len := by
                      have := (List.getElem?_eq_some_iff.1 hi).1
                      omega
                    obtain ⟨cs0, hc0, _⟩ := hall 0 (by omega)
                    obtain ⟨d1, d2⟩ := cells_get hc0
                    have hlt : 0 < cs0.length := by omega
                    have := d2 0 cs0[0] (by simp [List.getElem?_eq_getElem hlt])
                    simp only [Nat.zero_mul, Addr.add, if_true] at this
                    obtain ⟨b, o, sp⟩ := a
                    cases sp with
                    | none => exact ⟨b, o, rfl⟩
                    | some s =>
                      unfold World.cell? at this
                      split at this <;> simp at this
                  obtain ⟨b, o, rfl⟩ := h0
                  refine ⟨b, o, cs', rfl, hr, fun j c hj => ⟨fun h => h, ?_⟩⟩
                  have := c2 j c hj
                  rwa [add_none, add_none] at this
                · have := hw ((len + (m - len)) * P.bytesOf te) (by simp [DataW.weights, hu])
                  rw [hlen]
                  exact Nat.le_trans (Nat.mul_le_mul (by omega) b1) this
                · obtain ⟨i, hi, rfl⟩ := List.getElem_of_mem hy
                  exact (hys i _ (List.getElem?_eq_getElem hi)).2
            · cases h
          · cases h
        · cases h
      · rename_i fs hu
        split at h
        · rename_i l hl
          obtain ⟨h1, rfl⟩ := sized_some h
          obtain ⟨xs, n', _, rfl, hlen, hxs, hf⟩ := DataW.trod_struct hu hx
          have hcs : cs.length = (packTy l).size := by
            rw [hlen, ← h1]
            simp [Program.cellsOf, hi]
          have hw' : ∀ m ∈ DataW.weightsEach P (fs.toList.map (·.type)) (xs.map (·.1)), m ≤ reachBytes := fun m hm => hw m (by simp only [DataW.weights, hu]; exact hm)
          have hsize : ∀ T u, tyOf P d T = some u → P.cellsOf T = u.size := fun T u h => by
            have := (tyOf_ok d T u h).size
            unfold SizeIs at this
            simp [Program.cellsOf, this]
          have hg : ∀ T u, tyOf P d T = some u → ∀ cs x, DataW.trod enc P w 0 (fun _ => true) held n' T cs = some x → (∀ m ∈ x.1.weights P T, m ≤ reachBytes) → ∃ y, Rep w noBlock u y cs ∧ Wf u y := fun T u h cs x => trod_rep d T u h n' cs x
          have hf' : ∀ (i : Nat) (f : Field), fs.toList[i]? = some f → DataW.trod enc P w 0 (fun _ => true) held n' f.type ((cs.drop f.offset).take (P.cellsOf f.type)) = xs[i]? := fun i f h => hf i f (by simpa using h)
          have hxs' : xs.length = fs.toList.length := by simpa using hxs
          generalize fs.toList = fl at hl hf' hw' hxs'
          match fl, l, hl, hcs with
          | [], l, hl, hcs =>
            simp only [allOf, Option.some.injEq] at hl
            subst hl
            exact ⟨(), List.eq_nil_of_length_eq_zero hcs, trivial⟩
          | f :: r, [], hl, hcs =>
            simp only [allOf] at hl
            split at hl
            · cases hc : Nat.beq f.offset 0 with
              | false => rw [hc] at hl; cases hl
              | true =>
                rw [hc] at hl
                simp only [cond_true] at hl
                split at hl <;> cases hl
            · cases hl
          | f :: r, [a], hl, hcs =>
            obtain ⟨y, p1, p2⟩ := fields_rep hsize hg r f 0 a [] xs hl (by simpa [packTy, packR, Ty.size] using hcs.symm) (by simpa using hxs') hf' hw'
            exact ⟨y, p1, p2⟩
          | f :: r, a :: b :: q, hl, hcs =>
            obtain ⟨y, p1, p2⟩ := fields_rep hsize hg r f 0 a (b :: q) xs hl (by simpa [packTy, packR] using hcs.symm) (by simpa using hxs') hf' hw'
            exact ⟨y, p1, p2⟩
        · cases h
      · cases h
end Go.Ev
end
section
set_option linter.unusedVariables false
set_option linter.unusedSimpArgs false
namespace Go.Ev
open Go.RowKit
variable {P : Program} {H : Type} {enc : TypeId × Value → H} {W : World} {held : Bool}
def isFar : Ty → Bool
  | .box _ => true
  | .mp _ _ => true
  | .trie => true
  | _ => false
theorem tyOf_not (d : Nat) (T : TypeId) (u : Ty) (hu : isFar u = true) : tyOf P d T ≠ some u := by
  intro h
  cases d with
  | zero => cases h
  | succ d =>
    simp only [tyOf] at h
    split at h
    · cases h
    · split at h
      · obtain ⟨_, rfl⟩ := sized_some h; cases hu
      · obtain ⟨_, rfl⟩ := sized_some h; cases hu
      · obtain ⟨_, rfl⟩ := sized_some h; cases hu
      · obtain ⟨_, rfl⟩ := sized_some h; cases hu
      · split at h
        · split at h
          · split at h
            · cases hb : Nat.ble _ _ && Nat.ble _ _ with
              | false => rw [hb] at h; cases h
              | true =>
                rw [hb] at h
                obtain ⟨_, rfl⟩ := sized_some h
                cases hu
            · cases h
          · cases h
        · cases h
      · split at h
        · rename_i l hl
          obtain ⟨_, rfl⟩ := sized_some h
          match l with
          | [] => cases hu
          | [a] => cases hu
          | a :: b :: r => cases hu
        · cases h
      · cases h
theorem okWide_val {d : Nat} {T : TypeId} {u : Ty} (hty : tyOf P d T = some u) {r : Reach} {b : Nat} {v : Value} (hval : Value.okWide P W r b T v) : mkVal u v.cells.toList = v := by
  have ok := tyOf_ok d T u hty
  cases u with
  | int k => obtain ⟨n, rfl⟩ := WideShapes.okWide_int ok.1 hval; rfl
  | bool => obtain ⟨n, rfl⟩ := WideShapes.okWide_bool ok.1 hval; rfl
  | f64 => obtain ⟨n, rfl⟩ := ChangeShapes.okWide_float ok.1 hval; rfl
  | str => obtain ⟨n, rfl⟩ := WideShapes.okWide_string ok.1 hval; rfl
  | sl e => obtain ⟨_, te, h, _⟩ := ok; obtain ⟨a, len, cap, rfl⟩ := WideShapes.okWide_slice h hval; rfl
  | unit => obtain ⟨_, fs, h⟩ := ok; obtain ⟨cs, rfl, _⟩ := WideShapes.okWide_struct h hval; simp [mkVal, Ty.isAgg, Value.cells]
  | one a => obtain ⟨_, fs, h⟩ := ok; obtain ⟨cs, rfl, _⟩ := WideShapes.okWide_struct h hval; simp [mkVal, Ty.isAgg, Value.cells]
  | pair a b => obtain ⟨_, fs, h⟩ := ok; obtain ⟨cs, rfl, _⟩ := WideShapes.okWide_struct h hval; simp [mkVal, Ty.isAgg, Value.cells]
  | box a => exact absurd hty (tyOf_not d T _ rfl)
  | mp k v => exact absurd hty (tyOf_not d T _ rfl)
  | trie => exact absurd hty (tyOf_not d T _ rfl)
theorem arg_rep {d : Nat} {T : TypeId} {u : Ty} (hty : tyOf P d T = some u) {r : Reach} {b : Nat} {v : Value} (hval : Value.okWide P W r b T v) {x : DataW H} {p : List MemPlace}
    (h : DataW.Trod enc P W 0 (fun _ => true) held T v x p) {ts : List TypeId} {ds : List (DataW H)} (hsz : (DataW.weightsEach P ts ds).all (· ≤ reachBytes) = true) {j : Nat} (ht : ts[j]? = some T) (hd : ds[j]? = some x) :
    ∃ y, (∃ cs, Rep W noBlock u y cs ∧ v = mkVal u cs) ∧ Wf u y := by
  obtain ⟨fuel, hf⟩ := h
  obtain ⟨y, h1, h2⟩ := trod_rep d T u hty fuel _ _ hf fun m hm => by simpa using List.all_eq_true.1 hsz _ (DataW.weights_mem_each ht hd m hm)
  exact ⟨y, ⟨_, h1, (okWide_val hty hval).symm⟩, h2⟩
theorem res_bool {B : Nat} {w : World} {S : Nat → Prop} {b : Bool} {v : Value} (h : ResRep B w S [.pure .bool] (b, ()) v) : v = .bool b := by
  obtain ⟨hv, vs, _, h2, rfl, _⟩ := h
  match vs, h2 with
  | [v], h2 =>
    obtain ⟨⟨cs, h3, rfl⟩, _⟩ := h2
    have h3 : cs = [.bool b] := h3
    subst h3
    rfl
end Go.Ev
end
