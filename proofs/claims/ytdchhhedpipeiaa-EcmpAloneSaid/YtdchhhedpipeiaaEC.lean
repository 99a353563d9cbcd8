/- The functions' contracts. -/
import Derived.Test.YtdchhhedpipeiaaEL
import Derived.Test.YtdchhhedpipeiaaEFn1
import Derived.Test.YtdchhhedpipeiaaEFn2
import Derived.Tactics
import Derived.Laws.Externs
import Derived.Laws.Cover2
set_option linter.unusedVariables false
set_option maxRecDepth 100000
namespace BE
open Go Go.Ev Go.Proofs Go.Shelf Go.RowKit
theorem mix : Try.prog.follows .mixedOrders = true := by kernel_rfl
theorem e38 : Entered Try.prog 38 := entered_of Try.func38 (by kernel_rfl) (c := Try.f38.body.getD .skip) (by kernel_rfl)
theorem e39 : Entered Try.prog 39 := entered_of Try.func39 (by kernel_rfl) (c := Try.f39.body.getD .skip) (by kernel_rfl)
theorem x28 : Entered Try.prog 28 ∧ ExtOk false Try.prog 28 (keysExt 39) ∧ ExtLocal (keysExt 39) :=
  ⟨entered_of Try.func28 (by kernel_rfl) (c := Try.f28.body.getD .skip) (by kernel_rfl), keys_ok (ρ := l28_ren) l28, keys_local _⟩
theorem sorts (m : Nat) : AnyZI.SortsIn Try.prog l27_ren Fence.wide m :=
  ⟨fun blk off cap ss W hH hblk hsz => callsIn_wide.2 (AnyM.slices_Sort_int l38 blk off cap ss W hH hblk hsz),
   fun p cap W => callsIn_wide.2 (AnyM.slices_Sort_int_none l38 p cap W)⟩
theorem x27 : Entered Try.prog 27 ∧ ExtOk false Try.prog 27 (sortedExt 39 .f64) ∧ ExtLocal (sortedExt 39 .f64) :=
  ⟨entered_of Try.func27 (by kernel_rfl) (c := Try.f27.body.getD .skip) (by kernel_rfl), sorted_ok (ρ := l27_ren) (ρk := l28_ren) l27 { l28 with } sorts e38 e39 _, sorted_local _ _⟩
/-! math.Inf -/
theorem run_frombits (n : Int) (w : World) : (callFunc 73 #[.int .u64 n]).run Try.prog w = .ok (.value (.float .f64 n.toNat)) w :=
  run_callFunc_extern (e := Extern.MathFloatBits.float64frombits) Try.func73 (by kernel_rfl) (by kernel_rfl) (by kernel_rfl) rfl _ _
noncomputable def Inf.sp : Ev.Spec := ⟨[ty2], [.pure ty40], fun x => if 0 ≤ (show Int from x.1) then some ((9218868437227405312 : Nat), ()) else none⟩
noncomputable abbrev Inf.F := Inf.sp.F
theorem Inf.ent : Entered Try.prog 82 := entered_of Try.func82 (by kernel_rfl) (c := Try.f82.body.getD .skip) (by kernel_rfl)
theorem Inf.calls (a0 : Int) (w : World) (hge : 0 ≤ a0) : Calls Try.prog 82 #[.int .i64 a0] w fun e w' => e = .returned (.float .f64 9218868437227405312) ∧ w' = w := by
  have he := run_frombits 9218868437227405312
  go_enter Try.func82, Try.ntmps82
  go_wp2
  go_ret
  exact ⟨rfl, rfl⟩
theorem Inf.ok {tr : Bool} : Pure tr Try.prog 82 Inf.sp := by
  rintro ⟨a0, _⟩ r h w S vals hS ha
  match vals, ha with
  | [v], ⟨⟨cs, hcs, hv⟩, _⟩ =>
  have hcs : cs = [.int .i64 a0] := hcs
  subst hcs
  have hv : v = .int .i64 a0 := hv
  subst hv
  have h : (if 0 ≤ a0 then some ((9218868437227405312 : Nat), ()) else none) = some r := h
  split at h
  · rename_i hge
    injection h with h
    subst h
    refine (Inf.calls a0 w hge).mono ?_
    rintro e w' ⟨rfl, rfl⟩
    exact ⟨_, rfl, ⟨fun _ => none, [.float .f64 9218868437227405312], ⟨fun k o h => (by cases h), fun k o v k' o' v' b h => (by cases h), fun b ⟨k, o, v, h, _⟩ => (by cases h)⟩, ⟨⟨_, rfl, rfl⟩, trivial⟩, rfl, fun b ⟨k, o, v, h, _⟩ => (by cases h)⟩, Below.refl _ _ _⟩
  · cases h

/-! Within -/
noncomputable def Within.sp : Ev.Spec := ⟨[ty2, ty2, ty2], [.pure ty2], fun x => Within.f FU x.1 x.2.1 x.2.2.1⟩
noncomputable abbrev Within.F := Within.sp.F
theorem Within.ent : Entered Try.prog 10 := entered_of Try.func10 (by kernel_rfl) (c := Within.C) (by kernel_rfl)
theorem Within.ok {tr : Bool} : Pure tr Try.prog 10 Within.sp := pure_of_eval (E := Within.E) (envOf_ok _ _ _ (pick_ok (fun _ h => absurd h List.not_mem_nil)) (pick_ext (fun _ h => absurd h List.not_mem_nil))) mix Try.func10 (c := Within.C) (by kernel_rfl) fun ⟨a0, a1, a2, ()⟩ _ h => ⟨FU, (Within.ev FU a0 a1 a2).trans h⟩
/-! SameI -/
noncomputable def SameI.sp : Ev.Spec := ⟨[ty24, ty24], [.pure ty4], fun x => SameI.f FU x.1 x.2.1⟩
noncomputable abbrev SameI.F := SameI.sp.F
theorem SameI.ent : Entered Try.prog 13 := entered_of Try.func13 (by kernel_rfl) (c := SameI.C) (by kernel_rfl)
theorem SameI.ok {tr : Bool} : Pure tr Try.prog 13 SameI.sp := pure_of_eval (E := SameI.E) (envOf_ok _ _ _ (pick_ok (fun _ h => absurd h List.not_mem_nil)) (pick_ext (fun _ h => absurd h List.not_mem_nil))) mix Try.func13 (c := SameI.C) (by kernel_rfl) fun ⟨a0, a1, ()⟩ _ h => ⟨FU, (SameI.ev FU a0 a1).trans h⟩
/-! SameH -/
noncomputable def SameH.sp : Ev.Spec := ⟨[ty46, ty46], [.pure ty4], fun x => SameH.f FU x.1 x.2.1⟩
noncomputable abbrev SameH.F := SameH.sp.F
theorem SameH.ent : Entered Try.prog 15 := entered_of Try.func15 (by kernel_rfl) (c := SameH.C) (by kernel_rfl)
theorem SameH.ok {tr : Bool} : Pure tr Try.prog 15 SameH.sp := pure_of_eval (E := SameH.E) (envOf_ok _ _ _ (pick_ok (fun _ h => absurd h List.not_mem_nil)) (pick_ext (fun _ h => absurd h List.not_mem_nil))) mix Try.func15 (c := SameH.C) (by kernel_rfl) fun ⟨a0, a1, ()⟩ _ h => ⟨FU, (SameH.ev FU a0 a1).trans h⟩
/-! rSame -/
noncomputable def rSame.sp : Ev.Spec := ⟨[ty46, ty46], [.pure ty4], fun x => rSame.f FU x.1 x.2.1⟩
noncomputable abbrev rSame.F := rSame.sp.F
theorem rSame.ent : Entered Try.prog 20 := entered_of Try.func20 (by kernel_rfl) (c := rSame.C) (by kernel_rfl)
theorem rSame.ok {tr : Bool} : Pure tr Try.prog 20 rSame.sp := pure_of_eval (E := rSame.E) (envOf_ok _ _ _ (pick_ok (fun _ h => absurd h List.not_mem_nil)) (pick_ext (fun _ h => absurd h List.not_mem_nil))) mix Try.func20 (c := rSame.C) (by kernel_rfl) fun ⟨a0, a1, ()⟩ _ h => ⟨FU, (rSame.ev FU a0 a1).trans h⟩
/-! Short -/
noncomputable def Short.sp : Ev.Spec := ⟨[ty36], [.pure ty36], fun x => Short.f FU x.1⟩
noncomputable abbrev Short.F := Short.sp.F
theorem Short.ent : Entered Try.prog 21 := entered_of Try.func21 (by kernel_rfl) (c := Short.C) (by kernel_rfl)
theorem Short.ok {tr : Bool} : Pure tr Try.prog 21 Short.sp := pure_of_eval (E := Short.E) (envOf_ok _ _ _ (pick_ok (fun _ h => absurd h List.not_mem_nil)) (pick_ext (fun _ h => absurd h List.not_mem_nil))) mix Try.func21 (c := Short.C) (by kernel_rfl) fun ⟨a0, ()⟩ _ h => ⟨FU, (Short.ev FU a0).trans h⟩
/-! Or -/
noncomputable def Or.sp : Ev.Spec := ⟨[ty24], [.pure ty2], fun x => Or.f FU x.1⟩
noncomputable abbrev Or.F := Or.sp.F
theorem Or.ent : Entered Try.prog 24 := entered_of Try.func24 (by kernel_rfl) (c := Or.C) (by kernel_rfl)
theorem Or.ok {tr : Bool} : Pure tr Try.prog 24 Or.sp := pure_of_eval (E := Or.E) (envOf_ok _ _ _ (pick_ok (fun _ h => absurd h List.not_mem_nil)) (pick_ext (fun _ h => absurd h List.not_mem_nil))) mix Try.func24 (c := Or.C) (by kernel_rfl) fun ⟨a0, ()⟩ _ h => ⟨FU, (Or.ev FU a0).trans h⟩
/-! inn -/
noncomputable def inn.sp : Ev.Spec := ⟨[ty23], [.fresh ty41], fun x => inn.f FU x.1⟩
noncomputable abbrev inn.F := inn.sp.F
theorem inn.ent : Entered Try.prog 31 := entered_of Try.func31 (by kernel_rfl) (c := inn.C) (by kernel_rfl)
theorem inn.ok {tr : Bool} : Pure tr Try.prog 31 inn.sp := pure_of_eval (E := inn.E) (envOf_ok _ _ _ (pick_ok (fun _ h => absurd h List.not_mem_nil)) (pick_ext (fun _ h => absurd h List.not_mem_nil))) mix Try.func31 (c := inn.C) (by kernel_rfl) fun ⟨a0, ()⟩ _ h => ⟨FU, (inn.ev FU a0).trans h⟩
/-! Equal -/
noncomputable def Equal.sp : Ev.Spec := ⟨[ty46, ty46], [.pure ty4], fun x => Equal.f FU x.1 x.2.1⟩
noncomputable abbrev Equal.F := Equal.sp.F
theorem Equal.ent : Entered Try.prog 33 := entered_of Try.func33 (by kernel_rfl) (c := Equal.C) (by kernel_rfl)
theorem Equal.ok {tr : Bool} : Pure tr Try.prog 33 Equal.sp := pure_of_eval (E := Equal.E) (envOf_ok _ _ _ (pick_ok (fun _ h => absurd h List.not_mem_nil)) (pick_ext (fun _ h => absurd h List.not_mem_nil))) mix Try.func33 (c := Equal.C) (by kernel_rfl) fun ⟨a0, a1, ()⟩ _ h => ⟨FU, (Equal.ev FU a0 a1).trans h⟩
/-! isNaN -/
noncomputable def isNaN.sp : Ev.Spec := ⟨[ty33], [.pure ty4], fun x => isNaN.f FU x.1⟩
noncomputable abbrev isNaN.F := isNaN.sp.F
theorem isNaN.ent : Entered Try.prog 35 := entered_of Try.func35 (by kernel_rfl) (c := isNaN.C) (by kernel_rfl)
theorem isNaN.ok {tr : Bool} : Pure tr Try.prog 35 isNaN.sp := pure_of_eval (E := isNaN.E) (envOf_ok _ _ _ (pick_ok (fun _ h => absurd h List.not_mem_nil)) (pick_ext (fun _ h => absurd h List.not_mem_nil))) mix Try.func35 (c := isNaN.C) (by kernel_rfl) fun ⟨a0, ()⟩ _ h => ⟨FU, (isNaN.ev FU a0).trans h⟩
/-! sum -/
noncomputable def sum.sp : Ev.Spec := ⟨[ty65], [.pure ty40], fun x => sum.f FU x.1⟩
noncomputable abbrev sum.F := sum.sp.F
theorem sum.ent : Entered Try.prog 41 := entered_of Try.func41 (by kernel_rfl) (c := sum.C) (by kernel_rfl)
theorem sum.ok {tr : Bool} : Pure tr Try.prog 41 sum.sp := pure_of_eval (E := sum.E) (envOf_ok _ _ _ (pick_ok (fun _ h => absurd h List.not_mem_nil)) (pick_ext (fun _ h => absurd h List.not_mem_nil))) mix Try.func41 (c := sum.C) (by kernel_rfl) fun ⟨a0, ()⟩ _ h => ⟨FU, (sum.ev FU a0).trans h⟩
/-! IsInf -/
noncomputable def IsInf.sp : Ev.Spec := ⟨[ty40, ty2], [.pure ty4], fun x => IsInf.f (fun _ => none) FU x.1 x.2.1⟩
noncomputable abbrev IsInf.F := IsInf.sp.F
theorem IsInf.ent : Entered Try.prog 42 := entered_of Try.func42 (by kernel_rfl) (c := IsInf.C) (by kernel_rfl)
theorem IsInf.ok {tr : Bool} : Pure tr Try.prog 42 IsInf.sp := pure_of_eval (E := IsInf.E (fun _ => none)) (envOf_ok _ _ _ (pick_ok (List.forall_mem_cons.2 ⟨⟨entered_of Try.func56 (by kernel_rfl) (c := Try.f56.body.getD .skip) (by kernel_rfl), pure_none⟩, (fun _ h => absurd h List.not_mem_nil)⟩)) (pick_ext (fun _ h => absurd h List.not_mem_nil))) mix Try.func42 (c := IsInf.C) (by kernel_rfl) fun ⟨a0, a1, ()⟩ _ h => ⟨FU, (IsInf.ev (fun _ => none) FU a0 a1).trans h⟩
/-! Pref -/
noncomputable def Pref.sp : Ev.Spec := ⟨[ty36], [.pure ty33], fun x => Pref.f FU x.1⟩
noncomputable abbrev Pref.F := Pref.sp.F
theorem Pref.ent : Entered Try.prog 47 := entered_of Try.func47 (by kernel_rfl) (c := Pref.C) (by kernel_rfl)
theorem Pref.ok {tr : Bool} : Pure tr Try.prog 47 Pref.sp := pure_of_eval (E := Pref.E) (envOf_ok _ _ _ (pick_ok (fun _ h => absurd h List.not_mem_nil)) (pick_ext (fun _ h => absurd h List.not_mem_nil))) mix Try.func47 (c := Pref.C) (by kernel_rfl) fun ⟨a0, ()⟩ _ h => ⟨FU, (Pref.ev FU a0).trans h⟩
/-! Count -/
noncomputable def Count.sp : Ev.Spec := ⟨[ty34], [.pure ty2], fun x => Count.f FU x.1⟩
noncomputable abbrev Count.F := Count.sp.F
theorem Count.ent : Entered Try.prog 48 := entered_of Try.func48 (by kernel_rfl) (c := Count.C) (by kernel_rfl)
theorem Count.ok {tr : Bool} : Pure tr Try.prog 48 Count.sp := pure_of_eval (E := Count.E) (envOf_ok _ _ _ (pick_ok (fun _ h => absurd h List.not_mem_nil)) (pick_ext (fun _ h => absurd h List.not_mem_nil))) mix Try.func48 (c := Count.C) (by kernel_rfl) fun ⟨a0, ()⟩ _ h => ⟨FU, (Count.ev FU a0).trans h⟩
/-! med -/
noncomputable def med.sp : Ev.Spec := ⟨[ty36], [.pure ty33], fun x => med.f FU x.1⟩
noncomputable abbrev med.F := med.sp.F
theorem med.ent : Entered Try.prog 50 := entered_of Try.func50 (by kernel_rfl) (c := med.C) (by kernel_rfl)
theorem med.ok {tr : Bool} : Pure tr Try.prog 50 med.sp := pure_of_eval (E := med.E) (envOf_ok _ _ _ (pick_ok (fun _ h => absurd h List.not_mem_nil)) (pick_ext (fun _ h => absurd h List.not_mem_nil))) mix Try.func50 (c := med.C) (by kernel_rfl) fun ⟨a0, ()⟩ _ h => ⟨FU, (med.ev FU a0).trans h⟩
/-! Ahead -/
noncomputable def Ahead.sp : Ev.Spec := ⟨[ty41, ty41], [.pure ty4], fun x => Ahead.f FU x.1 x.2.1⟩
noncomputable abbrev Ahead.F := Ahead.sp.F
theorem Ahead.ent : Entered Try.prog 52 := entered_of Try.func52 (by kernel_rfl) (c := Ahead.C) (by kernel_rfl)
theorem Ahead.ok {tr : Bool} : Pure tr Try.prog 52 Ahead.sp := pure_of_eval (E := Ahead.E) (envOf_ok _ _ _ (pick_ok (fun _ h => absurd h List.not_mem_nil)) (pick_ext (fun _ h => absurd h List.not_mem_nil))) mix Try.func52 (c := Ahead.C) (by kernel_rfl) fun ⟨a0, a1, ()⟩ _ h => ⟨FU, (Ahead.ev FU a0 a1).trans h⟩
/-! total -/
noncomputable def total.sp : Ev.Spec := ⟨[ty65], [.pure ty40], fun x => total.f FU x.1⟩
noncomputable abbrev total.F := total.sp.F
theorem total.ent : Entered Try.prog 58 := entered_of Try.func58 (by kernel_rfl) (c := total.C) (by kernel_rfl)
theorem total.ok {tr : Bool} : Pure tr Try.prog 58 total.sp := pure_of_eval (E := total.E) (envOf_ok _ _ _ (pick_ok (fun _ h => absurd h List.not_mem_nil)) (pick_ext (fun _ h => absurd h List.not_mem_nil))) mix Try.func58 (c := total.C) (by kernel_rfl) fun ⟨a0, ()⟩ _ h => ⟨FU, (total.ev FU a0).trans h⟩
/-! First -/
noncomputable def First.sp : Ev.Spec := ⟨[ty34], [.pure ty33, .pure ty4], fun x => First.f FU x.1⟩
noncomputable abbrev First.F := First.sp.F
theorem First.ent : Entered Try.prog 60 := entered_of Try.func60 (by kernel_rfl) (c := First.C) (by kernel_rfl)
theorem First.ok {tr : Bool} : Pure tr Try.prog 60 First.sp := pure_of_eval (E := First.E) (envOf_ok _ _ _ (pick_ok (fun _ h => absurd h List.not_mem_nil)) (pick_ext (fun _ h => absurd h List.not_mem_nil))) mix Try.func60 (c := First.C) (by kernel_rfl) fun ⟨a0, ()⟩ _ h => ⟨FU, (First.ev FU a0).trans h⟩
/-! rPref -/
noncomputable def rPref.sp : Ev.Spec := ⟨[ty36], [.pure ty33], fun x => rPref.f FU x.1⟩
noncomputable abbrev rPref.F := rPref.sp.F
theorem rPref.ent : Entered Try.prog 75 := entered_of Try.func75 (by kernel_rfl) (c := rPref.C) (by kernel_rfl)
theorem rPref.ok {tr : Bool} : Pure tr Try.prog 75 rPref.sp := pure_of_eval (E := rPref.E) (envOf_ok _ _ _ (pick_ok (fun _ h => absurd h List.not_mem_nil)) (pick_ext (fun _ h => absurd h List.not_mem_nil))) mix Try.func75 (c := rPref.C) (by kernel_rfl) fun ⟨a0, ()⟩ _ h => ⟨FU, (rPref.ev FU a0).trans h⟩
/-! rCount -/
noncomputable def rCount.sp : Ev.Spec := ⟨[ty34], [.pure ty2], fun x => rCount.f FU x.1⟩
noncomputable abbrev rCount.F := rCount.sp.F
theorem rCount.ent : Entered Try.prog 76 := entered_of Try.func76 (by kernel_rfl) (c := rCount.C) (by kernel_rfl)
theorem rCount.ok {tr : Bool} : Pure tr Try.prog 76 rCount.sp := pure_of_eval (E := rCount.E) (envOf_ok _ _ _ (pick_ok (fun _ h => absurd h List.not_mem_nil)) (pick_ext (fun _ h => absurd h List.not_mem_nil))) mix Try.func76 (c := rCount.C) (by kernel_rfl) fun ⟨a0, ()⟩ _ h => ⟨FU, (rCount.ev FU a0).trans h⟩
/-! rmed -/
noncomputable def rmed.sp : Ev.Spec := ⟨[ty36], [.pure ty33], fun x => rmed.f FU x.1⟩
noncomputable abbrev rmed.F := rmed.sp.F
theorem rmed.ent : Entered Try.prog 78 := entered_of Try.func78 (by kernel_rfl) (c := rmed.C) (by kernel_rfl)
theorem rmed.ok {tr : Bool} : Pure tr Try.prog 78 rmed.sp := pure_of_eval (E := rmed.E) (envOf_ok _ _ _ (pick_ok (fun _ h => absurd h List.not_mem_nil)) (pick_ext (fun _ h => absurd h List.not_mem_nil))) mix Try.func78 (c := rmed.C) (by kernel_rfl) fun ⟨a0, ()⟩ _ h => ⟨FU, (rmed.ev FU a0).trans h⟩
/-! Right -/
noncomputable def Right.sp : Ev.Spec := ⟨[ty40], [.pure ty4], fun x => Right.f FU x.1⟩
noncomputable abbrev Right.F := Right.sp.F
theorem Right.ent : Entered Try.prog 81 := entered_of Try.func81 (by kernel_rfl) (c := Right.C) (by kernel_rfl)
theorem Right.ok {tr : Bool} : Pure tr Try.prog 81 Right.sp := pure_of_eval (E := Right.E) (envOf_ok _ _ _ (pick_ok (fun _ h => absurd h List.not_mem_nil)) (pick_ext (fun _ h => absurd h List.not_mem_nil))) mix Try.func81 (c := Right.C) (by kernel_rfl) fun ⟨a0, ()⟩ _ h => ⟨FU, (Right.ev FU a0).trans h⟩
/-! rFirst -/
noncomputable def rFirst.sp : Ev.Spec := ⟨[ty34], [.pure ty33, .pure ty4], fun x => rFirst.f FU x.1⟩
noncomputable abbrev rFirst.F := rFirst.sp.F
theorem rFirst.ent : Entered Try.prog 89 := entered_of Try.func89 (by kernel_rfl) (c := rFirst.C) (by kernel_rfl)
theorem rFirst.ok {tr : Bool} : Pure tr Try.prog 89 rFirst.sp := pure_of_eval (E := rFirst.E) (envOf_ok _ _ _ (pick_ok (fun _ h => absurd h List.not_mem_nil)) (pick_ext (fun _ h => absurd h List.not_mem_nil))) mix Try.func89 (c := rFirst.C) (by kernel_rfl) fun ⟨a0, ()⟩ _ h => ⟨FU, (rFirst.ev FU a0).trans h⟩
/-! rRight -/
noncomputable def rRight.sp : Ev.Spec := ⟨[ty40], [.pure ty4], fun x => rRight.f FU x.1⟩
noncomputable abbrev rRight.F := rRight.sp.F
theorem rRight.ent : Entered Try.prog 92 := entered_of Try.func92 (by kernel_rfl) (c := rRight.C) (by kernel_rfl)
theorem rRight.ok {tr : Bool} : Pure tr Try.prog 92 rRight.sp := pure_of_eval (E := rRight.E) (envOf_ok _ _ _ (pick_ok (fun _ h => absurd h List.not_mem_nil)) (pick_ext (fun _ h => absurd h List.not_mem_nil))) mix Try.func92 (c := rRight.C) (by kernel_rfl) fun ⟨a0, ()⟩ _ h => ⟨FU, (rRight.ev FU a0).trans h⟩
/-! cands -/
noncomputable def cands.sp : Ev.Spec := ⟨[ty22, ty4], [.fresh ty41, .fresh ty2], fun x => cands.f Short.F Within.F FU x.1 x.2.1⟩
noncomputable abbrev cands.F := cands.sp.F
theorem cands.ent : Entered Try.prog 9 := entered_of Try.func9 (by kernel_rfl) (c := cands.C) (by kernel_rfl)
theorem cands.ok {tr : Bool} : Pure tr Try.prog 9 cands.sp := pure_of_eval (E := cands.E Short.F Within.F) (envOf_ok _ _ _ (pick_ok (List.forall_mem_cons.2 ⟨⟨Short.ent, Short.ok⟩, (List.forall_mem_cons.2 ⟨⟨Within.ent, Within.ok⟩, (fun _ h => absurd h List.not_mem_nil)⟩)⟩)) (pick_ext (fun _ h => absurd h List.not_mem_nil))) mix Try.func9 (c := cands.C) (by kernel_rfl) fun ⟨a0, a1, ()⟩ _ h => ⟨FU, (cands.ev Short.F Within.F FU a0 a1).trans h⟩
/-! eSame -/
noncomputable def eSame.sp : Ev.Spec := ⟨[ty46, ty46], [.pure ty4], fun x => eSame.f Equal.F FU x.1 x.2.1⟩
noncomputable abbrev eSame.F := eSame.sp.F
theorem eSame.ent : Entered Try.prog 19 := entered_of Try.func19 (by kernel_rfl) (c := eSame.C) (by kernel_rfl)
theorem eSame.ok {tr : Bool} : Pure tr Try.prog 19 eSame.sp := pure_of_eval (E := eSame.E Equal.F) (envOf_ok _ _ _ (pick_ok (List.forall_mem_cons.2 ⟨⟨Equal.ent, Equal.ok⟩, (fun _ h => absurd h List.not_mem_nil)⟩)) (pick_ext (fun _ h => absurd h List.not_mem_nil))) mix Try.func19 (c := eSame.C) (by kernel_rfl) fun ⟨a0, a1, ()⟩ _ h => ⟨FU, (eSame.ev Equal.F FU a0 a1).trans h⟩
/-! Compare -/
noncomputable def Compare.sp : Ev.Spec := ⟨[ty33, ty33], [.pure ty2], fun x => Compare.f isNaN.F FU x.1 x.2.1⟩
noncomputable abbrev Compare.F := Compare.sp.F
theorem Compare.ent : Entered Try.prog 25 := entered_of Try.func25 (by kernel_rfl) (c := Compare.C) (by kernel_rfl)
theorem Compare.ok {tr : Bool} : Pure tr Try.prog 25 Compare.sp := pure_of_eval (E := Compare.E isNaN.F) (envOf_ok _ _ _ (pick_ok (List.forall_mem_cons.2 ⟨⟨isNaN.ent, isNaN.ok⟩, (fun _ h => absurd h List.not_mem_nil)⟩)) (pick_ext (fun _ h => absurd h List.not_mem_nil))) mix Try.func25 (c := Compare.C) (by kernel_rfl) fun ⟨a0, a1, ()⟩ _ h => ⟨FU, (Compare.ev isNaN.F FU a0 a1).trans h⟩
/-! counts -/
noncomputable def counts.sp : Ev.Spec := ⟨[ty65], [.fresh ty40], fun x => counts.f IsInf.F FU x.1⟩
noncomputable abbrev counts.F := counts.sp.F
theorem counts.ent : Entered Try.prog 40 := entered_of Try.func40 (by kernel_rfl) (c := counts.C) (by kernel_rfl)
theorem counts.ok {tr : Bool} : Pure tr Try.prog 40 counts.sp := pure_of_eval (E := counts.E IsInf.F) (envOf_ok _ _ _ (pick_ok (List.forall_mem_cons.2 ⟨⟨IsInf.ent, IsInf.ok⟩, (fun _ h => absurd h List.not_mem_nil)⟩)) (pick_ext (fun _ h => absurd h List.not_mem_nil))) mix Try.func40 (c := counts.C) (by kernel_rfl) fun ⟨a0, ()⟩ _ h => ⟨FU, (counts.ev IsInf.F FU a0).trans h⟩
/-! rShares -/
noncomputable def rShares.sp : Ev.Spec := ⟨[ty65, ty2], [.fresh ty2], fun x => rShares.f IsInf.F total.F FU x.1 x.2.1⟩
noncomputable abbrev rShares.F := rShares.sp.F
theorem rShares.ent : Entered Try.prog 44 := entered_of Try.func44 (by kernel_rfl) (c := rShares.C) (by kernel_rfl)
theorem rShares.ok {tr : Bool} : Pure tr Try.prog 44 rShares.sp := pure_of_eval (E := rShares.E IsInf.F total.F) (envOf_ok _ _ _ (pick_ok (List.forall_mem_cons.2 ⟨⟨IsInf.ent, IsInf.ok⟩, (List.forall_mem_cons.2 ⟨⟨total.ent, total.ok⟩, (fun _ h => absurd h List.not_mem_nil)⟩)⟩)) (pick_ext (fun _ h => absurd h List.not_mem_nil))) mix Try.func44 (c := rShares.C) (by kernel_rfl) fun ⟨a0, a1, ()⟩ _ h => ⟨FU, (rShares.ev IsInf.F total.F FU a0 a1).trans h⟩
/-! fellows -/
noncomputable def fellows.sp : Ev.Spec := ⟨[ty36, ty36], [.pure ty4], fun x => fellows.f First.F FU x.1 x.2.1⟩
noncomputable abbrev fellows.F := fellows.sp.F
theorem fellows.ent : Entered Try.prog 49 := entered_of Try.func49 (by kernel_rfl) (c := fellows.C) (by kernel_rfl)
theorem fellows.ok {tr : Bool} : Pure tr Try.prog 49 fellows.sp := pure_of_eval (E := fellows.E First.F) (envOf_ok _ _ _ (pick_ok (List.forall_mem_cons.2 ⟨⟨First.ent, First.ok⟩, (fun _ h => absurd h List.not_mem_nil)⟩)) (pick_ext (fun _ h => absurd h List.not_mem_nil))) mix Try.func49 (c := fellows.C) (by kernel_rfl) fun ⟨a0, a1, ()⟩ _ h => ⟨FU, (fellows.ev First.F FU a0 a1).trans h⟩
/-! Clean -/
noncomputable def Clean.sp : Ev.Spec := ⟨[ty40], [.pure ty40], fun x => Clean.f Right.F Inf.F FU x.1⟩
noncomputable abbrev Clean.F := Clean.sp.F
theorem Clean.ent : Entered Try.prog 61 := entered_of Try.func61 (by kernel_rfl) (c := Clean.C) (by kernel_rfl)
theorem Clean.ok {tr : Bool} : Pure tr Try.prog 61 Clean.sp := pure_of_eval (E := Clean.E Right.F Inf.F) (envOf_ok _ _ _ (pick_ok (List.forall_mem_cons.2 ⟨⟨Right.ent, Right.ok⟩, (List.forall_mem_cons.2 ⟨⟨Inf.ent, Inf.ok⟩, (fun _ h => absurd h List.not_mem_nil)⟩)⟩)) (pick_ext (fun _ h => absurd h List.not_mem_nil))) mix Try.func61 (c := Clean.C) (by kernel_rfl) fun ⟨a0, ()⟩ _ h => ⟨FU, (Clean.ev Right.F Inf.F FU a0).trans h⟩
/-! neighbour -/
noncomputable def neighbour.sp : Ev.Spec := ⟨[ty36, ty36], [.pure ty4], fun x => neighbour.f rFirst.F FU x.1 x.2.1⟩
noncomputable abbrev neighbour.F := neighbour.sp.F
theorem neighbour.ent : Entered Try.prog 77 := entered_of Try.func77 (by kernel_rfl) (c := neighbour.C) (by kernel_rfl)
theorem neighbour.ok {tr : Bool} : Pure tr Try.prog 77 neighbour.sp := pure_of_eval (E := neighbour.E rFirst.F) (envOf_ok _ _ _ (pick_ok (List.forall_mem_cons.2 ⟨⟨rFirst.ent, rFirst.ok⟩, (fun _ h => absurd h List.not_mem_nil)⟩)) (pick_ext (fun _ h => absurd h List.not_mem_nil))) mix Try.func77 (c := neighbour.C) (by kernel_rfl) fun ⟨a0, a1, ()⟩ _ h => ⟨FU, (neighbour.ev rFirst.F FU a0 a1).trans h⟩
/-! rClean -/
noncomputable def rClean.sp : Ev.Spec := ⟨[ty40], [.pure ty40], fun x => rClean.f rRight.F Inf.F FU x.1⟩
noncomputable abbrev rClean.F := rClean.sp.F
theorem rClean.ent : Entered Try.prog 90 := entered_of Try.func90 (by kernel_rfl) (c := rClean.C) (by kernel_rfl)
theorem rClean.ok {tr : Bool} : Pure tr Try.prog 90 rClean.sp := pure_of_eval (E := rClean.E rRight.F Inf.F) (envOf_ok _ _ _ (pick_ok (List.forall_mem_cons.2 ⟨⟨rRight.ent, rRight.ok⟩, (List.forall_mem_cons.2 ⟨⟨Inf.ent, Inf.ok⟩, (fun _ h => absurd h List.not_mem_nil)⟩)⟩)) (pick_ext (fun _ h => absurd h List.not_mem_nil))) mix Try.func90 (c := rClean.C) (by kernel_rfl) fun ⟨a0, ()⟩ _ h => ⟨FU, (rClean.ev rRight.F Inf.F FU a0).trans h⟩
/-! SetC -/
noncomputable def SetC.sp : Ev.BySpec := ⟨[.pure ty2, .pure ty2, .con ty23], [.pure ty2], fun x => SetC.f Compare.F Or.F FU x.1 x.2.1 x.2.2.1⟩
noncomputable abbrev SetC.F := SetC.sp.F
theorem SetC.ent : Entered Try.prog 23 := entered_of Try.func23 (by kernel_rfl) (c := SetC.C) (by kernel_rfl)
theorem SetC.ok {tr : Bool} : By tr Try.prog 23 SetC.sp := by_of_eval (E := SetC.E Compare.F Or.F) (envOf_ok _ _ _ (pick_ok (List.forall_mem_cons.2 ⟨⟨Compare.ent, Compare.ok⟩, (List.forall_mem_cons.2 ⟨⟨Or.ent, Or.ok⟩, (fun _ h => absurd h List.not_mem_nil)⟩)⟩)) (pick_ext (fun _ h => absurd h List.not_mem_nil))) mix Try.func23 (c := SetC.C) (by kernel_rfl) fun ⟨a0, a1, a2, ()⟩ _ h => ⟨FU, (SetC.ev Compare.F Or.F FU a0 a1 a2).trans h⟩
/-! Shares -/
noncomputable def Shares.sp : Ev.Spec := ⟨[ty65, ty2], [.fresh ty2], fun x => Shares.f counts.F sum.F IsInf.F FU x.1 x.2.1⟩
noncomputable abbrev Shares.F := Shares.sp.F
theorem Shares.ent : Entered Try.prog 29 := entered_of Try.func29 (by kernel_rfl) (c := Shares.C) (by kernel_rfl)
theorem Shares.ok {tr : Bool} : Pure tr Try.prog 29 Shares.sp := pure_of_eval (E := Shares.E counts.F sum.F IsInf.F) (envOf_ok _ _ _ (pick_ok (List.forall_mem_cons.2 ⟨⟨counts.ent, counts.ok⟩, (List.forall_mem_cons.2 ⟨⟨sum.ent, sum.ok⟩, (List.forall_mem_cons.2 ⟨⟨IsInf.ent, IsInf.ok⟩, (fun _ h => absurd h List.not_mem_nil)⟩)⟩)⟩)) (pick_ext (fun _ h => absurd h List.not_mem_nil))) mix Try.func29 (c := Shares.C) (by kernel_rfl) fun ⟨a0, a1, ()⟩ _ h => ⟨FU, (Shares.ev counts.F sum.F IsInf.F FU a0 a1).trans h⟩
/-! slices.insertionSortCmpFunc -/
noncomputable def insSort.sp : Ev.BySpec := ⟨insKs 23 ty23, [], fun x => (insF (tc := ty23) SetC.F x).orElse fun _ => insSort.f SetC.F FU x.1 x.2.1 x.2.2.1 x.2.2.2.1⟩
noncomputable abbrev insSort.F := insSort.sp.F
theorem insSort.ent : Entered Try.prog 45 := entered_of Try.func45 (by kernel_rfl) (c := insSort.C) (by kernel_rfl)
theorem insSort.ok {tr : Bool} : By tr Try.prog 45 insSort.sp :=
  by_or (by_insSort (ρ := l45_ren) { l45 with } SetC.ent SetC.ok) (by_of_eval (E := insSort.E SetC.F) (sp := ⟨insKs 23 ty23, [], fun x => insSort.f SetC.F FU x.1 x.2.1 x.2.2.1 x.2.2.2.1⟩) (envOf_ok _ _ _ (pick_ok (fun _ h => absurd h List.not_mem_nil)) (pick_ext (List.forall_mem_cons.2 ⟨⟨SetC.ent, ext_of_by SetC.ok, ext_local _⟩, (fun _ h => absurd h List.not_mem_nil)⟩))) mix Try.func45 (c := insSort.C) (by kernel_rfl) fun ⟨a0, a1, a2, a3, ()⟩ _ h => ⟨FU, (insSort.ev SetC.F FU a0 a1 a2 a3).trans h⟩)

/-! Less -/
noncomputable def Less.sp : Ev.Spec := ⟨[ty40, ty40], [.pure ty4], fun x => Less.f Clean.F FU x.1 x.2.1⟩
noncomputable abbrev Less.F := Less.sp.F
theorem Less.ent : Entered Try.prog 51 := entered_of Try.func51 (by kernel_rfl) (c := Less.C) (by kernel_rfl)
theorem Less.ok {tr : Bool} : Pure tr Try.prog 51 Less.sp := pure_of_eval (E := Less.E Clean.F) (envOf_ok _ _ _ (pick_ok (List.forall_mem_cons.2 ⟨⟨Clean.ent, Clean.ok⟩, (fun _ h => absurd h List.not_mem_nil)⟩)) (pick_ext (fun _ h => absurd h List.not_mem_nil))) mix Try.func51 (c := Less.C) (by kernel_rfl) fun ⟨a0, a1, ()⟩ _ h => ⟨FU, (Less.ev Clean.F FU a0 a1).trans h⟩
/-! rLess -/
noncomputable def rLess.sp : Ev.Spec := ⟨[ty40, ty40], [.pure ty4], fun x => rLess.f rClean.F FU x.1 x.2.1⟩
noncomputable abbrev rLess.F := rLess.sp.F
theorem rLess.ent : Entered Try.prog 79 := entered_of Try.func79 (by kernel_rfl) (c := rLess.C) (by kernel_rfl)
theorem rLess.ok {tr : Bool} : Pure tr Try.prog 79 rLess.sp := pure_of_eval (E := rLess.E rClean.F) (envOf_ok _ _ _ (pick_ok (List.forall_mem_cons.2 ⟨⟨rClean.ent, rClean.ok⟩, (fun _ h => absurd h List.not_mem_nil)⟩)) (pick_ext (fun _ h => absurd h List.not_mem_nil))) mix Try.func79 (c := rLess.C) (by kernel_rfl) fun ⟨a0, a1, ()⟩ _ h => ⟨FU, (rLess.ev rClean.F FU a0 a1).trans h⟩
/-! stableCmp -/
noncomputable def stableCmp.sp : Ev.BySpec := ⟨[.row ty2, .pure ty2, .fn 23 [ty23]], [], fun x => stableCmp.f insSort.F (fun _ => none) SetC.F FU x.1 x.2.1 x.2.2.1⟩
noncomputable abbrev stableCmp.F := stableCmp.sp.F
theorem stableCmp.ent : Entered Try.prog 34 := entered_of Try.func34 (by kernel_rfl) (c := stableCmp.C) (by kernel_rfl)
theorem stableCmp.ok {tr : Bool} : By tr Try.prog 34 stableCmp.sp := by_of_eval (E := stableCmp.E insSort.F (fun _ => none) SetC.F) (envOf_ok _ _ _ (pick_ok (fun _ h => absurd h List.not_mem_nil)) (pick_ext (List.forall_mem_cons.2 ⟨⟨insSort.ent, ext_of_by insSort.ok, ext_local _⟩, (List.forall_mem_cons.2 ⟨⟨entered_of Try.func46 (by kernel_rfl) (c := Try.f46.body.getD .skip) (by kernel_rfl), ext_of_by by_none, ext_local _⟩, (List.forall_mem_cons.2 ⟨⟨SetC.ent, ext_of_by SetC.ok, ext_local _⟩, (fun _ h => absurd h List.not_mem_nil)⟩)⟩)⟩))) mix Try.func34 (c := stableCmp.C) (by kernel_rfl) fun ⟨a0, a1, a2, ()⟩ _ h => ⟨FU, (stableCmp.ev insSort.F (fun _ => none) SetC.F FU a0 a1 a2).trans h⟩
/-! beats -/
noncomputable def beats.sp : Ev.Spec := ⟨[ty41, ty41, ty2], [.pure ty4], fun x => beats.f Pref.F Count.F fellows.F med.F Less.F Ahead.F FU x.1 x.2.1 x.2.2.1⟩
noncomputable abbrev beats.F := beats.sp.F
theorem beats.ent : Entered Try.prog 36 := entered_of Try.func36 (by kernel_rfl) (c := beats.C) (by kernel_rfl)
theorem beats.ok {tr : Bool} : Pure tr Try.prog 36 beats.sp := pure_of_eval (E := beats.E Pref.F Count.F fellows.F med.F Less.F Ahead.F) (envOf_ok _ _ _ (pick_ok (List.forall_mem_cons.2 ⟨⟨Pref.ent, Pref.ok⟩, (List.forall_mem_cons.2 ⟨⟨Count.ent, Count.ok⟩, (List.forall_mem_cons.2 ⟨⟨fellows.ent, fellows.ok⟩, (List.forall_mem_cons.2 ⟨⟨med.ent, med.ok⟩, (List.forall_mem_cons.2 ⟨⟨Less.ent, Less.ok⟩, (List.forall_mem_cons.2 ⟨⟨Ahead.ent, Ahead.ok⟩, (fun _ h => absurd h List.not_mem_nil)⟩)⟩)⟩)⟩)⟩)⟩)) (pick_ext (fun _ h => absurd h List.not_mem_nil))) mix Try.func36 (c := beats.C) (by kernel_rfl) fun ⟨a0, a1, a2, ()⟩ _ h => ⟨FU, (beats.ev Pref.F Count.F fellows.F med.F Less.F Ahead.F FU a0 a1 a2).trans h⟩
/-! worse -/
noncomputable def worse.sp : Ev.Spec := ⟨[ty41, ty41, ty2], [.pure ty4], fun x => worse.f rPref.F rCount.F neighbour.F rmed.F rLess.F FU x.1 x.2.1 x.2.2.1⟩
noncomputable abbrev worse.F := worse.sp.F
theorem worse.ent : Entered Try.prog 57 := entered_of Try.func57 (by kernel_rfl) (c := worse.C) (by kernel_rfl)
theorem worse.ok {tr : Bool} : Pure tr Try.prog 57 worse.sp := pure_of_eval (E := worse.E rPref.F rCount.F neighbour.F rmed.F rLess.F) (envOf_ok _ _ _ (pick_ok (List.forall_mem_cons.2 ⟨⟨rPref.ent, rPref.ok⟩, (List.forall_mem_cons.2 ⟨⟨rCount.ent, rCount.ok⟩, (List.forall_mem_cons.2 ⟨⟨neighbour.ent, neighbour.ok⟩, (List.forall_mem_cons.2 ⟨⟨rmed.ent, rmed.ok⟩, (List.forall_mem_cons.2 ⟨⟨rLess.ent, rLess.ok⟩, (fun _ h => absurd h List.not_mem_nil)⟩)⟩)⟩)⟩)⟩)) (pick_ext (fun _ h => absurd h List.not_mem_nil))) mix Try.func57 (c := worse.C) (by kernel_rfl) fun ⟨a0, a1, a2, ()⟩ _ h => ⟨FU, (worse.ev rPref.F rCount.F neighbour.F rmed.F rLess.F FU a0 a1 a2).trans h⟩
/-! SortStable -/
noncomputable def SortStable.sp : Ev.BySpec := ⟨[.row ty2, .fn 23 [ty23]], [], fun x => SortStable.f stableCmp.F SetC.F FU x.1 x.2.1⟩
noncomputable abbrev SortStable.F := SortStable.sp.F
theorem SortStable.ent : Entered Try.prog 22 := entered_of Try.func22 (by kernel_rfl) (c := SortStable.C) (by kernel_rfl)
theorem SortStable.ok {tr : Bool} : By tr Try.prog 22 SortStable.sp := by_of_eval (E := SortStable.E stableCmp.F SetC.F) (envOf_ok _ _ _ (pick_ok (fun _ h => absurd h List.not_mem_nil)) (pick_ext (List.forall_mem_cons.2 ⟨⟨stableCmp.ent, ext_of_by stableCmp.ok, ext_local _⟩, (List.forall_mem_cons.2 ⟨⟨SetC.ent, ext_of_by SetC.ok, ext_local _⟩, (fun _ h => absurd h List.not_mem_nil)⟩)⟩))) mix Try.func22 (c := SortStable.C) (by kernel_rfl) fun ⟨a0, a1, ()⟩ _ h => ⟨FU, (SortStable.ev stableCmp.F SetC.F FU a0 a1).trans h⟩
/-! sift -/
noncomputable def sift.sp : Ev.Spec := ⟨[ty23, ty24, ty2], [.fresh ty2], fun x => sift.f beats.F FU x.1 x.2.1 x.2.2.1⟩
noncomputable abbrev sift.F := sift.sp.F
theorem sift.ent : Entered Try.prog 26 := entered_of Try.func26 (by kernel_rfl) (c := sift.C) (by kernel_rfl)
theorem sift.ok {tr : Bool} : Pure tr Try.prog 26 sift.sp := pure_of_eval (E := sift.E beats.F) (envOf_ok _ _ _ (pick_ok (List.forall_mem_cons.2 ⟨⟨beats.ent, beats.ok⟩, (fun _ h => absurd h List.not_mem_nil)⟩)) (pick_ext (fun _ h => absurd h List.not_mem_nil))) mix Try.func26 (c := sift.C) (by kernel_rfl) fun ⟨a0, a1, a2, ()⟩ _ h => ⟨FU, (sift.ev beats.F FU a0 a1 a2).trans h⟩
/-! rLeft -/
noncomputable def rLeft.sp : Ev.Spec := ⟨[ty23, ty2], [.fresh ty2], fun x => rLeft.f worse.F FU x.1 x.2.1⟩
noncomputable abbrev rLeft.F := rLeft.sp.F
theorem rLeft.ent : Entered Try.prog 43 := entered_of Try.func43 (by kernel_rfl) (c := rLeft.C) (by kernel_rfl)
theorem rLeft.ok {tr : Bool} : Pure tr Try.prog 43 rLeft.sp := pure_of_eval (E := rLeft.E worse.F) (envOf_ok _ _ _ (pick_ok (List.forall_mem_cons.2 ⟨⟨worse.ent, worse.ok⟩, (fun _ h => absurd h List.not_mem_nil)⟩)) (pick_ext (fun _ h => absurd h List.not_mem_nil))) mix Try.func43 (c := rLeft.C) (by kernel_rfl) fun ⟨a0, a1, ()⟩ _ h => ⟨FU, (rLeft.ev worse.F FU a0 a1).trans h⟩
/-! Left -/
noncomputable def Left.sp : Ev.Spec := ⟨[ty23, ty2], [.fresh ty2], fun x => Left.f sift.F FU x.1 x.2.1⟩
noncomputable abbrev Left.F := Left.sp.F
theorem Left.ent : Entered Try.prog 12 := entered_of Try.func12 (by kernel_rfl) (c := Left.C) (by kernel_rfl)
theorem Left.ok {tr : Bool} : Pure tr Try.prog 12 Left.sp := pure_of_eval (E := Left.E sift.F) (envOf_ok _ _ _ (pick_ok (List.forall_mem_cons.2 ⟨⟨sift.ent, sift.ok⟩, (fun _ h => absurd h List.not_mem_nil)⟩)) (pick_ext (fun _ h => absurd h List.not_mem_nil))) mix Try.func12 (c := Left.C) (by kernel_rfl) fun ⟨a0, a1, ()⟩ _ h => ⟨FU, (Left.ev sift.F FU a0 a1).trans h⟩
/-! Best -/
noncomputable def Best.sp : Ev.Spec := ⟨[ty23], [.pure ty2, .pure ty4], fun x => Best.f Left.F FU x.1⟩
noncomputable abbrev Best.F := Best.sp.F
theorem Best.ent : Entered Try.prog 17 := entered_of Try.func17 (by kernel_rfl) (c := Best.C) (by kernel_rfl)
theorem Best.ok {tr : Bool} : Pure tr Try.prog 17 Best.sp := pure_of_eval (E := Best.E Left.F) (envOf_ok _ _ _ (pick_ok (List.forall_mem_cons.2 ⟨⟨Left.ent, Left.ok⟩, (fun _ h => absurd h List.not_mem_nil)⟩)) (pick_ext (fun _ h => absurd h List.not_mem_nil))) mix Try.func17 (c := Best.C) (by kernel_rfl) fun ⟨a0, ()⟩ _ h => ⟨FU, (Best.ev Left.F FU a0).trans h⟩
/-! rSet -/
noncomputable def rSet.sp : Ev.Spec := ⟨[ty23, ty24, ty2], [.fresh ty2], fun x => rSet.f rLeft.F FU x.1 x.2.1 x.2.2.1⟩
noncomputable abbrev rSet.F := rSet.sp.F
theorem rSet.ent : Entered Try.prog 30 := entered_of Try.func30 (by kernel_rfl) (c := rSet.C) (by kernel_rfl)
theorem rSet.ok {tr : Bool} : Pure tr Try.prog 30 rSet.sp := pure_of_eval (E := rSet.E rLeft.F) (envOf_ok _ _ _ (pick_ok (List.forall_mem_cons.2 ⟨⟨rLeft.ent, rLeft.ok⟩, (fun _ h => absurd h List.not_mem_nil)⟩)) (pick_ext (fun _ h => absurd h List.not_mem_nil))) mix Try.func30 (c := rSet.C) (by kernel_rfl) fun ⟨a0, a1, a2, ()⟩ _ h => ⟨FU, (rSet.ev rLeft.F FU a0 a1 a2).trans h⟩
/-! rHops -/
noncomputable def rHops.sp : Ev.Spec := ⟨[ty23, ty24, ty2], [.fresh ty44], fun x => rHops.f rSet.F rShares.F FU x.1 x.2.1 x.2.2.1⟩
noncomputable abbrev rHops.F := rHops.sp.F
theorem rHops.ent : Entered Try.prog 32 := entered_of Try.func32 (by kernel_rfl) (c := rHops.C) (by kernel_rfl)
theorem rHops.ok {tr : Bool} : Pure tr Try.prog 32 rHops.sp := pure_of_eval (E := rHops.E rSet.F rShares.F) (envOf_ok _ _ _ (pick_ok (List.forall_mem_cons.2 ⟨⟨rSet.ent, rSet.ok⟩, (List.forall_mem_cons.2 ⟨⟨rShares.ent, rShares.ok⟩, (fun _ h => absurd h List.not_mem_nil)⟩)⟩)) (pick_ext (fun _ h => absurd h List.not_mem_nil))) mix Try.func32 (c := rHops.C) (by kernel_rfl) fun ⟨a0, a1, a2, ()⟩ _ h => ⟨FU, (rHops.ev rSet.F rShares.F FU a0 a1 a2).trans h⟩
/-! Set -/
noncomputable def Set.sp : Ev.Spec := ⟨[ty23, ty24, ty2], [.fresh ty2], fun x => Set.f Left.F SortStable.F FU x.1 x.2.1 x.2.2.1⟩
noncomputable abbrev Set.F := Set.sp.F
theorem Set.ent : Entered Try.prog 11 := entered_of Try.func11 (by kernel_rfl) (c := Set.C) (by kernel_rfl)
theorem Set.ok {tr : Bool} : Pure tr Try.prog 11 Set.sp := pure_of_eval (E := Set.E Left.F SortStable.F) (envOf_ok _ _ _ (pick_ok (List.forall_mem_cons.2 ⟨⟨Left.ent, Left.ok⟩, (fun _ h => absurd h List.not_mem_nil)⟩)) (pick_ext (List.forall_mem_cons.2 ⟨⟨SortStable.ent, ext_of_by SortStable.ok, ext_local _⟩, (fun _ h => absurd h List.not_mem_nil)⟩))) mix Try.func11 (c := Set.C) (by kernel_rfl) fun ⟨a0, a1, a2, ()⟩ _ h => ⟨FU, (Set.ev Left.F SortStable.F FU a0 a1 a2).trans h⟩
/-! Hops -/
noncomputable def Hops.sp : Ev.Spec := ⟨[ty23, ty24, ty2], [.fresh ty44], fun x => Hops.f Set.F Shares.F FU x.1 x.2.1 x.2.2.1⟩
noncomputable abbrev Hops.F := Hops.sp.F
theorem Hops.ent : Entered Try.prog 16 := entered_of Try.func16 (by kernel_rfl) (c := Hops.C) (by kernel_rfl)
theorem Hops.ok : Pure false Try.prog 16 Hops.sp := pure_of_eval (E := Hops.E Set.F Shares.F) (envOf_ok _ _ _ (pick_ok (List.forall_mem_cons.2 ⟨⟨Set.ent, Set.ok⟩, (List.forall_mem_cons.2 ⟨⟨Shares.ent, Shares.ok⟩, (fun _ h => absurd h List.not_mem_nil)⟩)⟩)) (pick_ext (List.forall_mem_cons.2 ⟨x28, (List.forall_mem_cons.2 ⟨x27, (fun _ h => absurd h List.not_mem_nil)⟩)⟩))) mix Try.func16 (c := Hops.C) (by kernel_rfl) fun ⟨a0, a1, a2, ()⟩ _ h => ⟨FU, (Hops.ev Set.F Shares.F FU a0 a1 a2).trans h⟩
/-! same -/
noncomputable def same.sp : Ev.Spec := ⟨[ty23, ty24, ty2], [.pure ty4], fun x => same.f Set.F inn.F rSet.F SameI.F Hops.F rHops.F SameH.F FU x.1 x.2.1 x.2.2.1⟩
noncomputable abbrev same.F := same.sp.F
theorem same.ent : Entered Try.prog 18 := entered_of Try.func18 (by kernel_rfl) (c := same.C) (by kernel_rfl)
theorem same.ok : Pure false Try.prog 18 same.sp := pure_of_eval (E := same.E Set.F inn.F rSet.F SameI.F Hops.F rHops.F SameH.F) (envOf_ok _ _ _ (pick_ok (List.forall_mem_cons.2 ⟨⟨Set.ent, Set.ok⟩, (List.forall_mem_cons.2 ⟨⟨inn.ent, inn.ok⟩, (List.forall_mem_cons.2 ⟨⟨rSet.ent, rSet.ok⟩, (List.forall_mem_cons.2 ⟨⟨SameI.ent, SameI.ok⟩, (List.forall_mem_cons.2 ⟨⟨Hops.ent, Hops.ok⟩, (List.forall_mem_cons.2 ⟨⟨rHops.ent, rHops.ok⟩, (List.forall_mem_cons.2 ⟨⟨SameH.ent, SameH.ok⟩, (fun _ h => absurd h List.not_mem_nil)⟩)⟩)⟩)⟩)⟩)⟩)⟩)) (pick_ext (fun _ h => absurd h List.not_mem_nil))) mix Try.func18 (c := same.C) (by kernel_rfl) fun ⟨a0, a1, a2, ()⟩ _ h => ⟨FU, (same.ev Set.F inn.F rSet.F SameI.F Hops.F rHops.F SameH.F FU a0 a1 a2).trans h⟩
/-! known -/
noncomputable def known.sp : Ev.Spec := ⟨[], [.pure ty4], fun x => known.f Hops.F SameH.F Set.F FU ⟩
noncomputable abbrev known.F := known.sp.F
theorem known.ent : Entered Try.prog 14 := entered_of Try.func14 (by kernel_rfl) (c := known.C) (by kernel_rfl)
theorem known.ok : Pure false Try.prog 14 known.sp := pure_of_eval (E := known.E Hops.F SameH.F Set.F) (envOf_ok _ _ _ (pick_ok (List.forall_mem_cons.2 ⟨⟨Hops.ent, Hops.ok⟩, (List.forall_mem_cons.2 ⟨⟨SameH.ent, SameH.ok⟩, (List.forall_mem_cons.2 ⟨⟨Set.ent, Set.ok⟩, (fun _ h => absurd h List.not_mem_nil)⟩)⟩)⟩)) (pick_ext (fun _ h => absurd h List.not_mem_nil))) mix Try.func14 (c := known.C) (by kernel_rfl) fun () _ h => ⟨FU, (known.ev Hops.F SameH.F Set.F FU ).trans h⟩
/-! Widths -/
noncomputable def Widths.sp : Ev.Spec := ⟨[ty22, ty2, ty2], [.pure ty4], fun x => Widths.f cands.F Within.F Set.F Left.F SameI.F known.F FU x.1 x.2.1 x.2.2.1⟩
noncomputable abbrev Widths.F := Widths.sp.F
theorem Widths.ent : Entered Try.prog 3 := entered_of Try.func3 (by kernel_rfl) (c := Widths.C) (by kernel_rfl)
theorem Widths.ok : Pure false Try.prog 3 Widths.sp := pure_of_eval (E := Widths.E cands.F Within.F Set.F Left.F SameI.F known.F) (envOf_ok _ _ _ (pick_ok (List.forall_mem_cons.2 ⟨⟨cands.ent, cands.ok⟩, (List.forall_mem_cons.2 ⟨⟨Within.ent, Within.ok⟩, (List.forall_mem_cons.2 ⟨⟨Set.ent, Set.ok⟩, (List.forall_mem_cons.2 ⟨⟨Left.ent, Left.ok⟩, (List.forall_mem_cons.2 ⟨⟨SameI.ent, SameI.ok⟩, (List.forall_mem_cons.2 ⟨⟨known.ent, known.ok⟩, (fun _ h => absurd h List.not_mem_nil)⟩)⟩)⟩)⟩)⟩)⟩)) (pick_ext (fun _ h => absurd h List.not_mem_nil))) mix Try.func3 (c := Widths.C) (by kernel_rfl) fun ⟨a0, a1, a2, ()⟩ _ h => ⟨FU, (Widths.ev cands.F Within.F Set.F Left.F SameI.F known.F FU a0 a1 a2).trans h⟩
/-! Alone -/
noncomputable def Alone.sp : Ev.Spec := ⟨[ty22, ty2, ty2], [.pure ty4], fun x => Alone.f cands.F Within.F Hops.F SameH.F Set.F SameI.F known.F FU x.1 x.2.1 x.2.2.1⟩
noncomputable abbrev Alone.F := Alone.sp.F
theorem Alone.ent : Entered Try.prog 4 := entered_of Try.func4 (by kernel_rfl) (c := Alone.C) (by kernel_rfl)
theorem Alone.ok : Pure false Try.prog 4 Alone.sp := pure_of_eval (E := Alone.E cands.F Within.F Hops.F SameH.F Set.F SameI.F known.F) (envOf_ok _ _ _ (pick_ok (List.forall_mem_cons.2 ⟨⟨cands.ent, cands.ok⟩, (List.forall_mem_cons.2 ⟨⟨Within.ent, Within.ok⟩, (List.forall_mem_cons.2 ⟨⟨Hops.ent, Hops.ok⟩, (List.forall_mem_cons.2 ⟨⟨SameH.ent, SameH.ok⟩, (List.forall_mem_cons.2 ⟨⟨Set.ent, Set.ok⟩, (List.forall_mem_cons.2 ⟨⟨SameI.ent, SameI.ok⟩, (List.forall_mem_cons.2 ⟨⟨known.ent, known.ok⟩, (fun _ h => absurd h List.not_mem_nil)⟩)⟩)⟩)⟩)⟩)⟩)⟩)) (pick_ext (fun _ h => absurd h List.not_mem_nil))) mix Try.func4 (c := Alone.C) (by kernel_rfl) fun ⟨a0, a1, a2, ()⟩ _ h => ⟨FU, (Alone.ev cands.F Within.F Hops.F SameH.F Set.F SameI.F known.F FU a0 a1 a2).trans h⟩
/-! Order -/
noncomputable def Order.sp : Ev.Spec := ⟨[ty22, ty2, ty2], [.pure ty4], fun x => Order.f cands.F known.F Within.F Hops.F SameH.F FU x.1 x.2.1 x.2.2.1⟩
noncomputable abbrev Order.F := Order.sp.F
theorem Order.ent : Entered Try.prog 5 := entered_of Try.func5 (by kernel_rfl) (c := Order.C) (by kernel_rfl)
theorem Order.ok : Pure false Try.prog 5 Order.sp := pure_of_eval (E := Order.E cands.F known.F Within.F Hops.F SameH.F) (envOf_ok _ _ _ (pick_ok (List.forall_mem_cons.2 ⟨⟨cands.ent, cands.ok⟩, (List.forall_mem_cons.2 ⟨⟨known.ent, known.ok⟩, (List.forall_mem_cons.2 ⟨⟨Within.ent, Within.ok⟩, (List.forall_mem_cons.2 ⟨⟨Hops.ent, Hops.ok⟩, (List.forall_mem_cons.2 ⟨⟨SameH.ent, SameH.ok⟩, (fun _ h => absurd h List.not_mem_nil)⟩)⟩)⟩)⟩)⟩)) (pick_ext (fun _ h => absurd h List.not_mem_nil))) mix Try.func5 (c := Order.C) (by kernel_rfl) fun ⟨a0, a1, a2, ()⟩ _ h => ⟨FU, (Order.ev cands.F known.F Within.F Hops.F SameH.F FU a0 a1 a2).trans h⟩
/-! Rules -/
noncomputable def Rules.sp : Ev.Spec := ⟨[ty22, ty2], [.pure ty4], fun x => Rules.f cands.F Within.F Set.F Hops.F Best.F known.F FU x.1 x.2.1⟩
noncomputable abbrev Rules.F := Rules.sp.F
theorem Rules.ent : Entered Try.prog 6 := entered_of Try.func6 (by kernel_rfl) (c := Rules.C) (by kernel_rfl)
theorem Rules.ok : Pure false Try.prog 6 Rules.sp := pure_of_eval (E := Rules.E cands.F Within.F Set.F Hops.F Best.F known.F) (envOf_ok _ _ _ (pick_ok (List.forall_mem_cons.2 ⟨⟨cands.ent, cands.ok⟩, (List.forall_mem_cons.2 ⟨⟨Within.ent, Within.ok⟩, (List.forall_mem_cons.2 ⟨⟨Set.ent, Set.ok⟩, (List.forall_mem_cons.2 ⟨⟨Hops.ent, Hops.ok⟩, (List.forall_mem_cons.2 ⟨⟨Best.ent, Best.ok⟩, (List.forall_mem_cons.2 ⟨⟨known.ent, known.ok⟩, (fun _ h => absurd h List.not_mem_nil)⟩)⟩)⟩)⟩)⟩)⟩)) (pick_ext (fun _ h => absurd h List.not_mem_nil))) mix Try.func6 (c := Rules.C) (by kernel_rfl) fun ⟨a0, a1, ()⟩ _ h => ⟨FU, (Rules.ev cands.F Within.F Set.F Hops.F Best.F known.F FU a0 a1).trans h⟩
/-! Numbers -/
noncomputable def Numbers.sp : Ev.Spec := ⟨[], [.pure ty4], fun x => Numbers.f same.F eSame.F known.F FU ⟩
noncomputable abbrev Numbers.F := Numbers.sp.F
theorem Numbers.ent : Entered Try.prog 7 := entered_of Try.func7 (by kernel_rfl) (c := Numbers.C) (by kernel_rfl)
theorem Numbers.ok : Pure false Try.prog 7 Numbers.sp := pure_of_eval (E := Numbers.E same.F eSame.F known.F) (envOf_ok _ _ _ (pick_ok (List.forall_mem_cons.2 ⟨⟨same.ent, same.ok⟩, (List.forall_mem_cons.2 ⟨⟨eSame.ent, eSame.ok⟩, (List.forall_mem_cons.2 ⟨⟨known.ent, known.ok⟩, (fun _ h => absurd h List.not_mem_nil)⟩)⟩)⟩)) (pick_ext (fun _ h => absurd h List.not_mem_nil))) mix Try.func7 (c := Numbers.C) (by kernel_rfl) fun () _ h => ⟨FU, (Numbers.ev same.F eSame.F known.F FU ).trans h⟩
/-! Tells -/
noncomputable def Tells.sp : Ev.Spec := ⟨[ty22, ty2, ty46, ty46], [.pure ty4], fun x => Tells.f cands.F Within.F same.F eSame.F rSame.F known.F FU x.1 x.2.1 x.2.2.1 x.2.2.2.1⟩
noncomputable abbrev Tells.F := Tells.sp.F
theorem Tells.ent : Entered Try.prog 8 := entered_of Try.func8 (by kernel_rfl) (c := Tells.C) (by kernel_rfl)
theorem Tells.ok : Pure false Try.prog 8 Tells.sp := pure_of_eval (E := Tells.E cands.F Within.F same.F eSame.F rSame.F known.F) (envOf_ok _ _ _ (pick_ok (List.forall_mem_cons.2 ⟨⟨cands.ent, cands.ok⟩, (List.forall_mem_cons.2 ⟨⟨Within.ent, Within.ok⟩, (List.forall_mem_cons.2 ⟨⟨same.ent, same.ok⟩, (List.forall_mem_cons.2 ⟨⟨eSame.ent, eSame.ok⟩, (List.forall_mem_cons.2 ⟨⟨rSame.ent, rSame.ok⟩, (List.forall_mem_cons.2 ⟨⟨known.ent, known.ok⟩, (fun _ h => absurd h List.not_mem_nil)⟩)⟩)⟩)⟩)⟩)⟩)) (pick_ext (fun _ h => absurd h List.not_mem_nil))) mix Try.func8 (c := Tells.C) (by kernel_rfl) fun ⟨a0, a1, a2, a3, ()⟩ _ h => ⟨FU, (Tells.ev cands.F Within.F same.F eSame.F rSame.F known.F FU a0 a1 a2 a3).trans h⟩
end BE
