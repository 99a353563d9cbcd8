/- A law's row, out of its evaluation. -/
import Derived.Test.YtdchhhedpipeiaaEvX
import Derived.WideShapes
import Derived.Laws.Cover2
import Derived.ChangeOld
import Derived.SizedLaws
set_option linter.unusedVariables false
set_option linter.unusedSimpArgs false
namespace Go.Ev
open Go.RowKit

variable {P : Program} {H : Type} {enc : TypeId × Value → H} {W : World} {held : Bool}

theorem okWide_val {d : Nat} {T : TypeId} {u : Ty} (hty : tyOf P d T = some u) {r : Reach} {b : Nat} {v : Value} (hval : Value.okWide P W r b T v) : mkVal u v.cells.toList = v := by
  have ok := tyOf_ok d T u hty
  cases u with
  | int k => obtain ⟨n, rfl⟩ := WideShapes.okWide_int ok.1 hval; rfl
  | bool => obtain ⟨n, rfl⟩ := WideShapes.okWide_bool ok.1 hval; rfl
  | f64 => obtain ⟨n, rfl⟩ := ChangeShapes.okWide_float ok.1 hval; rfl
  | str => obtain ⟨n, rfl⟩ := WideShapes.okWide_string ok.1 hval; rfl
  | sl e => obtain ⟨_, te, h, _⟩ := ok; obtain ⟨a, len, cap, rfl⟩ := WideShapes.okWide_slice h hval; rfl
  | unit => obtain ⟨_, fs, h⟩ := ok; obtain ⟨cs, rfl, _⟩ := WideShapes.okWide_struct h hval; simp [mkVal, Ty.isAgg, Value.cells]
  | one a => obtain ⟨_, fs, h⟩ := ok; obtain ⟨cs, rfl, _⟩ := WideShapes.okWide_struct h hval; simp [mkVal, Ty.isAgg, Value.cells]
  | pair a b => obtain ⟨_, fs, h⟩ := ok; obtain ⟨cs, rfl, _⟩ := WideShapes.okWide_struct h hval; simp [mkVal, Ty.isAgg, Value.cells]

/-- An argument that a row hands over. -/
theorem arg_rep {d : Nat} {T : TypeId} {u : Ty} (hty : tyOf P d T = some u) {r : Reach} {b : Nat} {v : Value} (hval : Value.okWide P W r b T v) {x : DataW H} {p : List MemPlace}
    (h : DataW.Trod enc P W 0 (fun _ => true) held T v x p) {ts : List TypeId} {ds : List (DataW H)} (hsz : (DataW.weightsEach P ts ds).all (· ≤ reachBytes) = true) {j : Nat} (ht : ts[j]? = some T) (hd : ds[j]? = some x) :
    ∃ y, (∃ cs, Rep W noBlock u y cs ∧ v = mkVal u cs) ∧ Wf u y := by
  obtain ⟨fuel, hf⟩ := h
  obtain ⟨y, h1, h2⟩ := trod_rep d T u hty fuel _ _ hf fun m hm => by simpa using List.all_eq_true.1 hsz _ (DataW.weights_mem_each ht hd m hm)
  exact ⟨y, ⟨_, h1, (okWide_val hty hval).symm⟩, h2⟩

/-- How much memory a row takes. -/
theorem arg_size {T te : TypeId} {e : Ty} (hu : P.underlying T = some (.slice te)) {v : Value} {x : DataW H} {p : List MemPlace}
    (h : DataW.Trod enc P W 0 (fun _ => true) held T v x p) {ts : List TypeId} {ds : List (DataW H)} (hsz : (DataW.weightsEach P ts ds).all (· ≤ reachBytes) = true) {j : Nat} (ht : ts[j]? = some T) (hd : ds[j]? = some x)
    {y : (Ty.sl e).den} {cs : List Value} (hy : Rep W noBlock (.sl e) y cs) (hv : v = mkVal (.sl e) cs) : List.length (α := e.den) y * P.bytesOf te ≤ reachBytes := by
  obtain ⟨fuel, hf⟩ := h
  obtain ⟨A, cap, rfl, hc, _⟩ := hy
  subst hv
  rcases Deep.open_slice hu hf with ⟨hcs, _⟩ | ⟨a, len, cap', m, n', D, Pl, hcs, hb, hl, hm, hmm, hx, _⟩
  · simp [mkVal, Ty.isAgg, Value.cells] at hcs
    simp [hcs.2.1]
  · simp [mkVal, Ty.isAgg, Value.cells] at hcs
    obtain ⟨_, h2, _⟩ := hcs
    obtain ⟨rfl, _⟩ := Prod.mk.inj hx
    have z := sized_slice hsz ht hd hu
    simp only [List.length_map, List.length_range] at z
    rw [h2]
    exact Nat.le_trans (Nat.mul_le_mul (by omega) (Nat.le_refl _)) z

theorem res_bool {B : Nat} {w : World} {S : Nat → Prop} {b : Bool} {v : Value} (h : ResRep B w S [.pure .bool] (b, ()) v) : v = .bool b := by
  obtain ⟨hv, vs, _, h2, rfl, _⟩ := h
  match vs, h2 with
  | [v], h2 =>
    obtain ⟨⟨cs, h3, rfl⟩, _⟩ := h2
    have h3 : cs = [.bool b] := h3
    subst h3
    rfl
end Go.Ev
