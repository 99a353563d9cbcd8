/- Contracts and laws that the claim needs, packed from several texts. -/
import Derived.Test.YtkjhofadaoofcaaQf
import Derived.Test.YtkjhofadaoofcaaQx
section
set_option linter.unusedVariables false
set_option maxRecDepth 100000
namespace BE
open Go Go.Ev Go.Proofs Go.Shelf Go.RowKit
noncomputable def math_bits_Len.sp : Ev.Spec := ⟨[tyU64], [.pure tyI], fun x => bif decide (0 ≤ x.1) && decide (x.1 ≤ 18446744073709551615) then some (((Lib.bitLen x.1.toNat : Nat) : Int), ()) else none⟩
noncomputable abbrev math_bits_Len.F := math_bits_Len.sp.F
theorem math_bits_Len.ent : Entered Try.prog 55 := entered_of Try.func55 (by kernel_rfl) (c := Try.f55.body.getD .skip) (by kernel_rfl)
theorem math_bits_Len.ok {tr : Bool} : Pure tr Try.prog 55 math_bits_Len.sp := by
  rintro ⟨x, _⟩ r h w S vals hS ha
  have h : (bif decide (0 ≤ x) && decide (x ≤ 18446744073709551615) then some ((((Lib.bitLen x.toNat : Nat) : Int), ()) : Int × Unit) else none) = some r := h
  cases hc : decide (0 ≤ x) && decide (x ≤ 18446744073709551615) with
  | false => rw [hc] at h; cases h
  | true =>
    rw [hc] at h
    injection h with h
    subst h
    rw [Bool.and_eq_true, decide_eq_true_eq, decide_eq_true_eq] at hc
    match vals, ha with
    | [v], ⟨⟨cs, hcs, hv⟩, _⟩ =>
    have hcs : cs = [.int .u64 x] := hcs
    subst hcs
    have hv : v = .int .u64 x := hv
    subst hv
    refine Calls.mono (show Calls Try.prog 55 #[.int .u64 x] w _ from Any.bits_Len (SlLaysF0.n15.bits (P := Try.prog) (ρ := l35_ren) { l35 with }) x w hc.1 hc.2) ?_
    rintro e w' ⟨rfl, rfl⟩
    exact ⟨_, rfl, ⟨Hv.empty, [.int .i64 (Lib.bitLen x.toNat)], ⟨fun k o h => (by cases h), fun k o v k' o' v' b h => (by cases h), fun b ⟨k, ob, u, q1, _, _⟩ => (by cases q1), fun k d x v h => (by cases h), fun k j i h => (by cases h)⟩, ⟨⟨_, rfl, rfl⟩, trivial⟩, rfl, fun b ⟨k, ob, u, q1, _, _⟩ => (by cases q1)⟩, Below.refl _ _ _⟩
theorem apW : ApTy Try.prog 30 26 0 1 4 (.int .u32 0) false := ⟨mix, Try.underlying0, Try.isAgg0, Try.sizeOf0, Try.underlying30, Try.isAgg30, Try.sizeOf30, Try.zeroValue30, Try.isAgg26, Try.sizeOf26, Try.zeroValue26, by kernel_rfl, rfl, by decide, by decide⟩
theorem apP : ApTy Try.prog 49 28 0 2 16 (.agg #[.int .u32 0, .int .i64 0]) true := ⟨mix, Try.underlying0, Try.isAgg0, Try.sizeOf0, Try.underlying49, Try.isAgg49, Try.sizeOf49, Try.zeroValue49, Try.isAgg28, Try.sizeOf28, Try.zeroValue28, by kernel_rfl, rfl, by decide, by decide⟩
theorem vaW : VaTy Try.prog 30 26 3 4 77 0 false 1 := ⟨mix, Try.underlying0, Try.isAgg0, Try.sizeOf0, Try.underlying30, Try.isAgg30, Try.sizeOf30, Try.isAgg26, Try.sizeOf26, Try.underlying3, Try.isAgg3, Try.sizeOf3, Try.underlying4, Try.isAgg4, Try.sizeOf4, Try.isAgg77, Try.sizeOf77⟩
theorem keP : KeTy Try.prog 55 28 32 4 39 0 .u32 .i64 := ⟨mix, Try.underlying0, Try.isAgg0, Try.sizeOf0, Try.underlying55, Try.isAgg55, Try.sizeOf55, Try.isAgg28, Try.sizeOf28, Try.zeroValue28, Try.underlying4, Try.isAgg4, Try.sizeOf4, Try.isAgg39, Try.sizeOf39⟩
theorem x_slices_Values_uint32_uint32 : Entered Try.prog 36 ∧ ExtOk false Try.prog 36 (capExt 51) ∧ ExtLocal (capExt 51) :=
  ⟨entered_of Try.func36 (by kernel_rfl) (c := Try.f36.body.getD .skip) (by kernel_rfl), cap_ok fun v hv w => cap_calls Try.func36 (tS := 30) (tQ := 83) (tF := 82) (t0 := 0) (g := 51) (p1 := "iter.go:37") (p2 := "iter.go:37") (p3 := "iter.go:38") (p4 := "iter.go:38") (by kernel_rfl) (by kernel_rfl) (by kernel_rfl) Try.isAgg30 v hv w, cap_local _⟩
theorem x_maps_Keys_map_api_Prefix_api_Attrs_api_Prefix_api_Attrs : Entered Try.prog 26 ∧ ExtOk false Try.prog 26 (capExt 45) ∧ ExtLocal (capExt 45) :=
  ⟨entered_of Try.func26 (by kernel_rfl) (c := Try.f26.body.getD .skip) (by kernel_rfl), cap_ok fun v hv w => cap_calls Try.func26 (tS := 55) (tQ := 71) (tF := 70) (t0 := 0) (g := 45) (p1 := "iter.go:25") (p2 := "iter.go:25") (p3 := "iter.go:26") (p4 := "iter.go:26") (by kernel_rfl) (by kernel_rfl) (by kernel_rfl) Try.isAgg55 v hv w, cap_local _⟩
theorem x_slices_Collect_uint32 : Entered Try.prog 49 ∧ ExtOk false Try.prog 49 (colExt 51 tyW) ∧ ExtLocal (colExt 51 tyW) :=
  ⟨entered_of Try.func49 (by kernel_rfl) (c := Try.f49.body.getD .skip) (by kernel_rfl), col_ints apW vaW Try.func49 (tQ := 83) (fA := 59) (by kernel_rfl) (by kernel_rfl) (by kernel_rfl) Try.func59 (by kernel_rfl) (by kernel_rfl) (by kernel_rfl) Try.func51 (by kernel_rfl) (by kernel_rfl) (by kernel_rfl)
    (entered_of Try.func59 (by kernel_rfl) (c := Try.f59.body.getD .skip) (by kernel_rfl)) (entered_of Try.func51 (by kernel_rfl) (c := Try.f51.body.getD .skip) (by kernel_rfl)) (by decide), col_local _ _⟩
noncomputable def slices_SortFunc_api_Prefix_api_Prefix.sp : Ev.BySpec := ⟨[.row tyPrefix, .fn 27 []], [], sortF (e := tyPrefix) addr_Cmp.F⟩
noncomputable abbrev slices_SortFunc_api_Prefix_api_Prefix.F := slices_SortFunc_api_Prefix_api_Prefix.sp.F
theorem slices_SortFunc_api_Prefix_api_Prefix.ent : Entered Try.prog 39 := entered_of Try.func39 (by kernel_rfl) (c := Try.f39.body.getD .skip) (by kernel_rfl)
theorem slices_SortFunc_api_Prefix_api_Prefix.ok {tr : Bool} : By tr Try.prog 39 slices_SortFunc_api_Prefix_api_Prefix.sp := by_sort (ρ := l35_ren) l35 (e := tyPrefix) rfl (by decide) Try.isAgg28 Try.sizeOf28 addr_Cmp.ent addr_Cmp.ok
theorem x_slices_SortedFunc_api_Prefix : Entered Try.prog 25 ∧ ExtOk false Try.prog 25 (sokExt 45 27 tyAttrs) ∧ ExtLocal (sokExt 45 27 tyAttrs) :=
  ⟨entered_of Try.func25 (by kernel_rfl) (c := Try.f25.body.getD .skip) (by kernel_rfl), sok_ok (ρ := l35_ren) l35 Try.isAgg28 Try.sizeOf28 addr_Cmp.ent (F := addr_Cmp.F) addr_Cmp.ok (fun p q hp hq => cmp_eq hp hq) apP keP Try.func25 (tQ := 71) (tC := 73) (fC := 44) (by kernel_rfl) (by kernel_rfl) (by kernel_rfl)
    Try.func44 (fA := 58) (by kernel_rfl) (by kernel_rfl) (by kernel_rfl) Try.func58 (by kernel_rfl) (by kernel_rfl) (by kernel_rfl) Try.func45 (by kernel_rfl) (by kernel_rfl) (by kernel_rfl)
    (entered_of Try.func44 (by kernel_rfl) (c := Try.f44.body.getD .skip) (by kernel_rfl)) slices_SortFunc_api_Prefix_api_Prefix.ent (entered_of Try.func58 (by kernel_rfl) (c := Try.f58.body.getD .skip) (by kernel_rfl)) (entered_of Try.func45 (by kernel_rfl) (c := Try.f45.body.getD .skip) (by kernel_rfl)) (by decide) tyAttrs, sok_local _ _ _⟩
noncomputable def Book_Within.sp : Ev.Spec := ⟨[tyI, tyI, tyI], [.pure tyI], fun x => Book_Within.f FU x.1 x.2.1 x.2.2.1⟩
noncomputable abbrev Book_Within.F := Book_Within.sp.F
theorem Book_Within.ent : Entered Try.prog 19 := entered_of Try.func19 (by kernel_rfl) (c := Book_Within.C) (by kernel_rfl)
theorem Book_Within.ok {tr : Bool} : Pure tr Try.prog 19 Book_Within.sp := pure_of_eval (E := Book_Within.E) (envOf_ok _ _ _ (pick_ok (fun _ h => absurd h List.not_mem_nil)) (pick_ext (fun _ h => absurd h List.not_mem_nil))) mix Try.func19 (c := Book_Within.C) (by kernel_rfl) fun ⟨a0, a1, a2, ()⟩ _ h => ⟨FU, (Book_Within.ev FU a0 a1 a2).trans h⟩
noncomputable def Keep_Next.sp : Ev.Spec := ⟨[tyW], [.pure tyW], fun x => Keep_Next.f FU x.1⟩
noncomputable abbrev Keep_Next.F := Keep_Next.sp.F
theorem Keep_Next.ent : Entered Try.prog 20 := entered_of Try.func20 (by kernel_rfl) (c := Keep_Next.C) (by kernel_rfl)
theorem Keep_Next.ok {tr : Bool} : Pure tr Try.prog 20 Keep_Next.sp := pure_of_eval (E := Keep_Next.E) (envOf_ok _ _ _ (pick_ok (fun _ h => absurd h List.not_mem_nil)) (pick_ext (fun _ h => absurd h List.not_mem_nil))) mix Try.func20 (c := Keep_Next.C) (by kernel_rfl) fun ⟨a0, ()⟩ _ h => ⟨FU, (Keep_Next.ev FU a0).trans h⟩
noncomputable def Keep_Prefix.sp : Ev.Spec := ⟨[tyW, tyI], [.pure tyPrefix], fun x => Keep_Prefix.f Book_Within.F Ref1_Of.F FU x.1 x.2.1⟩
noncomputable abbrev Keep_Prefix.F := Keep_Prefix.sp.F
theorem Keep_Prefix.ent : Entered Try.prog 18 := entered_of Try.func18 (by kernel_rfl) (c := Keep_Prefix.C) (by kernel_rfl)
theorem Keep_Prefix.ok {tr : Bool} : Pure tr Try.prog 18 Keep_Prefix.sp := pure_of_eval (E := Keep_Prefix.E Book_Within.F Ref1_Of.F) (envOf_ok _ _ _ (pick_ok (List.forall_mem_cons.2 ⟨⟨Book_Within.ent, Book_Within.ok⟩, (List.forall_mem_cons.2 ⟨⟨Ref1_Of.ent, Ref1_Of.ok⟩, (fun _ h => absurd h List.not_mem_nil)⟩)⟩)) (pick_ext (fun _ h => absurd h List.not_mem_nil))) mix Try.func18 (c := Keep_Prefix.C) (by kernel_rfl) fun ⟨a0, a1, ()⟩ _ h => ⟨FU, (Keep_Prefix.ev Book_Within.F Ref1_Of.F FU a0 a1).trans h⟩
noncomputable def L22_at.sp : Ev.BySpec := ⟨[.give tyL22_one, .pure tyPrefix], [.fresh tyL22_one, .pure tyI], fun x => match x.1 with | some g0 => L22_at.f Ref1_Less.F FU g0 x.2.1 | none => none⟩
noncomputable abbrev L22_at.F := L22_at.sp.F
theorem L22_at.ent : Entered Try.prog 10 := entered_of Try.func10 (by kernel_rfl) (c := L22_at.C) (by kernel_rfl)
theorem L22_at.ok {tr : Bool} : By tr Try.prog 10 L22_at.sp := by_of_eval (E := L22_at.E Ref1_Less.F) (envOf_ok _ _ _ (pick_ok (List.forall_mem_cons.2 ⟨⟨Ref1_Less.ent, Ref1_Less.ok⟩, (fun _ h => absurd h List.not_mem_nil)⟩)) (pick_ext (fun _ h => absurd h List.not_mem_nil))) mix Try.func10 (c := L22_at.C) (by kernel_rfl) fun x _ h => by
  obtain ⟨a0, a1, _⟩ := x
  cases a0 with
  | none => cases h
  | some a0 =>
  exact ⟨FU, (L22_at.ev Ref1_Less.F FU a0 a1).trans h⟩
noncomputable def L22_prefix.sp : Ev.Spec := ⟨[tyL22_Ask], [.pure tyPrefix], fun x => L22_prefix.f Keep_Prefix.F FU x.1⟩
noncomputable abbrev L22_prefix.F := L22_prefix.sp.F
theorem L22_prefix.ent : Entered Try.prog 6 := entered_of Try.func6 (by kernel_rfl) (c := L22_prefix.C) (by kernel_rfl)
theorem L22_prefix.ok {tr : Bool} : Pure tr Try.prog 6 L22_prefix.sp := pure_of_eval (E := L22_prefix.E Keep_Prefix.F) (envOf_ok _ _ _ (pick_ok (List.forall_mem_cons.2 ⟨⟨Keep_Prefix.ent, Keep_Prefix.ok⟩, (fun _ h => absurd h List.not_mem_nil)⟩)) (pick_ext (fun _ h => absurd h List.not_mem_nil))) mix Try.func6 (c := L22_prefix.C) (by kernel_rfl) fun ⟨a0, ()⟩ _ h => ⟨FU, (L22_prefix.ev Keep_Prefix.F FU a0).trans h⟩
noncomputable def Ref6_Copy.sp : Ev.Spec := ⟨[(.sl tySeg)], [.fresh tySeg], fun x => Ref6_Copy.f FU x.1⟩
noncomputable abbrev Ref6_Copy.F := Ref6_Copy.sp.F
theorem Ref6_Copy.ent : Entered Try.prog 56 := entered_of Try.func56 (by kernel_rfl) (c := Ref6_Copy.C) (by kernel_rfl)
theorem Ref6_Copy.ok {tr : Bool} : Pure tr Try.prog 56 Ref6_Copy.sp := pure_of_eval (E := Ref6_Copy.E) (envOf_ok _ _ _ (pick_ok (fun _ h => absurd h List.not_mem_nil)) (pick_ext (fun _ h => absurd h List.not_mem_nil))) mix Try.func56 (c := Ref6_Copy.C) (by kernel_rfl) fun ⟨a0, ()⟩ _ h => ⟨FU, (Ref6_Copy.ev FU a0).trans h⟩
noncomputable def Ref6_side.sp : Ev.Spec := ⟨[tyB], [.pure tyI], fun x => Ref6_side.f FU x.1⟩
noncomputable abbrev Ref6_side.F := Ref6_side.sp.F
theorem Ref6_side.ent : Entered Try.prog 57 := entered_of Try.func57 (by kernel_rfl) (c := Ref6_side.C) (by kernel_rfl)
theorem Ref6_side.ok {tr : Bool} : Pure tr Try.prog 57 Ref6_side.sp := pure_of_eval (E := Ref6_side.E) (envOf_ok _ _ _ (pick_ok (fun _ h => absurd h List.not_mem_nil)) (pick_ext (fun _ h => absurd h List.not_mem_nil))) mix Try.func57 (c := Ref6_side.C) (by kernel_rfl) fun ⟨a0, ()⟩ _ h => ⟨FU, (Ref6_side.ev FU a0).trans h⟩
noncomputable def Ref7_Put.sp : Ev.BySpec := ⟨[.give tyW, .pure tyW], [.fresh tyW], fun x => match x.1 with | some g0 => Ref7_Put.f FU g0 x.2.1 | none => none⟩
noncomputable abbrev Ref7_Put.F := Ref7_Put.sp.F
theorem Ref7_Put.ent : Entered Try.prog 21 := entered_of Try.func21 (by kernel_rfl) (c := Ref7_Put.C) (by kernel_rfl)
theorem Ref7_Put.ok {tr : Bool} : By tr Try.prog 21 Ref7_Put.sp := by_of_eval (E := Ref7_Put.E) (envOf_ok _ _ _ (pick_ok (fun _ h => absurd h List.not_mem_nil)) (pick_ext (fun _ h => absurd h List.not_mem_nil))) mix Try.func21 (c := Ref7_Put.C) (by kernel_rfl) fun x _ h => by
  obtain ⟨a0, a1, _⟩ := x
  cases a0 with
  | none => cases h
  | some a0 =>
  exact ⟨FU, (Ref7_Put.ev FU a0 a1).trans h⟩
noncomputable def Ref7_side.sp : Ev.Spec := ⟨[tyB], [.pure tyI], fun x => Ref7_side.f FU x.1⟩
noncomputable abbrev Ref7_side.F := Ref7_side.sp.F
theorem Ref7_side.ent : Entered Try.prog 42 := entered_of Try.func42 (by kernel_rfl) (c := Ref7_side.C) (by kernel_rfl)
theorem Ref7_side.ok {tr : Bool} : Pure tr Try.prog 42 Ref7_side.sp := pure_of_eval (E := Ref7_side.E) (envOf_ok _ _ _ (pick_ok (fun _ h => absurd h List.not_mem_nil)) (pick_ext (fun _ h => absurd h List.not_mem_nil))) mix Try.func42 (c := Ref7_side.C) (by kernel_rfl) fun ⟨a0, ()⟩ _ h => ⟨FU, (Ref7_side.ev FU a0).trans h⟩
noncomputable def adjout_New.sp : Ev.BySpec := ⟨[], [.deep (.box dtOut)], fun x => adjout_New.f FU ⟩
noncomputable abbrev adjout_New.F := adjout_New.sp.F
theorem adjout_New.ent : Entered Try.prog 4 := entered_of Try.func4 (by kernel_rfl) (c := adjout_New.C) (by kernel_rfl)
theorem adjout_New.ok {tr : Bool} : By tr Try.prog 4 adjout_New.sp := by_of_eval (E := adjout_New.E) (envOf_ok _ _ _ (pick_ok (fun _ h => absurd h List.not_mem_nil)) (pick_ext (fun _ h => absurd h List.not_mem_nil))) mix Try.func4 (c := adjout_New.C) (by kernel_rfl) fun () _ h => ⟨FU, (adjout_New.ev FU ).trans h⟩
noncomputable def adjout_Out_All.sp : Ev.Spec := ⟨[(.box tyadjout_Out)], [.fresh tyPrefix], fun x => adjout_Out_All.f FU x.1⟩
noncomputable abbrev adjout_Out_All.F := adjout_Out_All.sp.F
theorem adjout_Out_All.ent : Entered Try.prog 12 := entered_of Try.func12 (by kernel_rfl) (c := adjout_Out_All.C) (by kernel_rfl)
theorem adjout_Out_All.ok : Pure false Try.prog 12 adjout_Out_All.sp := pure_of_eval (E := adjout_Out_All.E) (envOf_ok _ _ _ (pick_ok (fun _ h => absurd h List.not_mem_nil)) (pick_ext (List.forall_mem_cons.2 ⟨x_maps_Keys_map_api_Prefix_api_Attrs_api_Prefix_api_Attrs, (List.forall_mem_cons.2 ⟨x_slices_SortedFunc_api_Prefix, (fun _ h => absurd h List.not_mem_nil)⟩)⟩))) mix Try.func12 (c := adjout_Out_All.C) (by kernel_rfl) fun ⟨a0, ()⟩ _ h => ⟨FU, (adjout_Out_All.ev FU a0).trans h⟩
noncomputable def adjout_Out_Lack.sp : Ev.BySpec := ⟨[.deep (.box dtOut), .pure tyPrefix], [.pure tyB], fun x => adjout_Out_Lack.f FU x.1 x.2.1⟩
noncomputable abbrev adjout_Out_Lack.F := adjout_Out_Lack.sp.F
theorem adjout_Out_Lack.ent : Entered Try.prog 8 := entered_of Try.func8 (by kernel_rfl) (c := adjout_Out_Lack.C) (by kernel_rfl)
theorem adjout_Out_Lack.ok {tr : Bool} : By tr Try.prog 8 adjout_Out_Lack.sp := by_of_eval (E := adjout_Out_Lack.E) (envOf_ok _ _ _ (pick_ok (fun _ h => absurd h List.not_mem_nil)) (pick_ext (fun _ h => absurd h List.not_mem_nil))) mix Try.func8 (c := adjout_Out_Lack.C) (by kernel_rfl) fun ⟨a0, a1, ()⟩ _ h => ⟨FU, (adjout_Out_Lack.ev FU a0 a1).trans h⟩
noncomputable def aspath_right.sp : Ev.Spec := ⟨[tySeg], [.pure tyB], fun x => aspath_right.f FU x.1⟩
noncomputable abbrev aspath_right.F := aspath_right.sp.F
theorem aspath_right.ent : Entered Try.prog 47 := entered_of Try.func47 (by kernel_rfl) (c := aspath_right.C) (by kernel_rfl)
theorem aspath_right.ok {tr : Bool} : Pure tr Try.prog 47 aspath_right.sp := pure_of_eval (E := aspath_right.E) (envOf_ok _ _ _ (pick_ok (fun _ h => absurd h List.not_mem_nil)) (pick_ext (fun _ h => absurd h List.not_mem_nil))) mix Try.func47 (c := aspath_right.C) (by kernel_rfl) fun ⟨a0, ()⟩ _ h => ⟨FU, (aspath_right.ev FU a0).trans h⟩
noncomputable def attr_Good.sp : Ev.Spec := ⟨[tyW], [.pure tyB], fun x => attr_Good.f FU x.1⟩
noncomputable abbrev attr_Good.F := attr_Good.sp.F
theorem attr_Good.ent : Entered Try.prog 31 := entered_of Try.func31 (by kernel_rfl) (c := attr_Good.C) (by kernel_rfl)
theorem attr_Good.ok {tr : Bool} : Pure tr Try.prog 31 attr_Good.sp := pure_of_eval (E := attr_Good.E) (envOf_ok _ _ _ (pick_ok (fun _ h => absurd h List.not_mem_nil)) (pick_ext (fun _ h => absurd h List.not_mem_nil))) mix Try.func31 (c := attr_Good.C) (by kernel_rfl) fun ⟨a0, ()⟩ _ h => ⟨FU, (attr_Good.ev FU a0).trans h⟩
noncomputable def attr_rising.sp : Ev.Spec := ⟨[(.sl tyW)], [.pure tyB], fun x => attr_rising.f FU x.1⟩
noncomputable abbrev attr_rising.F := attr_rising.sp.F
theorem attr_rising.ent : Entered Try.prog 32 := entered_of Try.func32 (by kernel_rfl) (c := attr_rising.C) (by kernel_rfl)
theorem attr_rising.ok {tr : Bool} : Pure tr Try.prog 32 attr_rising.sp := pure_of_eval (E := attr_rising.E) (envOf_ok _ _ _ (pick_ok (fun _ h => absurd h List.not_mem_nil)) (pick_ext (fun _ h => absurd h List.not_mem_nil))) mix Try.func32 (c := attr_rising.C) (by kernel_rfl) fun ⟨a0, ()⟩ _ h => ⟨FU, (attr_rising.ev FU a0).trans h⟩
noncomputable def attr_truth.sp : Ev.Spec := ⟨[tyB], [.pure tyI], fun x => attr_truth.f FU x.1⟩
noncomputable abbrev attr_truth.F := attr_truth.sp.F
theorem attr_truth.ent : Entered Try.prog 85 := entered_of Try.func85 (by kernel_rfl) (c := attr_truth.C) (by kernel_rfl)
theorem attr_truth.ok {tr : Bool} : Pure tr Try.prog 85 attr_truth.sp := pure_of_eval (E := attr_truth.E) (envOf_ok _ _ _ (pick_ok (fun _ h => absurd h List.not_mem_nil)) (pick_ext (fun _ h => absurd h List.not_mem_nil))) mix Try.func85 (c := attr_truth.C) (by kernel_rfl) fun ⟨a0, ()⟩ _ h => ⟨FU, (attr_truth.ev FU a0).trans h⟩
noncomputable def cmp_Or_int.sp : Ev.Spec := ⟨[(.sl tyI)], [.pure tyI], fun x => cmp_Or_int.f FU x.1⟩
noncomputable abbrev cmp_Or_int.F := cmp_Or_int.sp.F
theorem cmp_Or_int.ent : Entered Try.prog 81 := entered_of Try.func81 (by kernel_rfl) (c := cmp_Or_int.C) (by kernel_rfl)
theorem cmp_Or_int.ok {tr : Bool} : Pure tr Try.prog 81 cmp_Or_int.sp := pure_of_eval (E := cmp_Or_int.E) (envOf_ok _ _ _ (pick_ok (fun _ h => absurd h List.not_mem_nil)) (pick_ext (fun _ h => absurd h List.not_mem_nil))) mix Try.func81 (c := cmp_Or_int.C) (by kernel_rfl) fun ⟨a0, ()⟩ _ h => ⟨FU, (cmp_Or_int.ev FU a0).trans h⟩
noncomputable def cmp_isNaN_int.sp : Ev.Spec := ⟨[tyI], [.pure tyB], fun x => cmp_isNaN_int.f FU x.1⟩
noncomputable abbrev cmp_isNaN_int.F := cmp_isNaN_int.sp.F
theorem cmp_isNaN_int.ent : Entered Try.prog 96 := entered_of Try.func96 (by kernel_rfl) (c := cmp_isNaN_int.C) (by kernel_rfl)
theorem cmp_isNaN_int.ok {tr : Bool} : Pure tr Try.prog 96 cmp_isNaN_int.sp := pure_of_eval (E := cmp_isNaN_int.E) (envOf_ok _ _ _ (pick_ok (fun _ h => absurd h List.not_mem_nil)) (pick_ext (fun _ h => absurd h List.not_mem_nil))) mix Try.func96 (c := cmp_isNaN_int.C) (by kernel_rfl) fun ⟨a0, ()⟩ _ h => ⟨FU, (cmp_isNaN_int.ev FU a0).trans h⟩
noncomputable def cmp_isNaN_uint32.sp : Ev.Spec := ⟨[tyW], [.pure tyB], fun x => cmp_isNaN_uint32.f FU x.1⟩
noncomputable abbrev cmp_isNaN_uint32.F := cmp_isNaN_uint32.sp.F
theorem cmp_isNaN_uint32.ent : Entered Try.prog 95 := entered_of Try.func95 (by kernel_rfl) (c := cmp_isNaN_uint32.C) (by kernel_rfl)
theorem cmp_isNaN_uint32.ok {tr : Bool} : Pure tr Try.prog 95 cmp_isNaN_uint32.sp := pure_of_eval (E := cmp_isNaN_uint32.E) (envOf_ok _ _ _ (pick_ok (fun _ h => absurd h List.not_mem_nil)) (pick_ext (fun _ h => absurd h List.not_mem_nil))) mix Try.func95 (c := cmp_isNaN_uint32.C) (by kernel_rfl) fun ⟨a0, ()⟩ _ h => ⟨FU, (cmp_isNaN_uint32.ev FU a0).trans h⟩
noncomputable def math_bits_Len64.sp : Ev.Spec := ⟨[tyU64], [.pure tyI], fun x => math_bits_Len64.f FU x.1⟩
noncomputable abbrev math_bits_Len64.F := math_bits_Len64.sp.F
theorem math_bits_Len64.ent : Entered Try.prog 71 := entered_of Try.func71 (by kernel_rfl) (c := math_bits_Len64.C) (by kernel_rfl)
theorem math_bits_Len64.ok {tr : Bool} : Pure tr Try.prog 71 math_bits_Len64.sp := pure_of_eval (E := math_bits_Len64.E) (envOf_ok _ _ _ (pick_ok (fun _ h => absurd h List.not_mem_nil)) (pick_ext (fun _ h => absurd h List.not_mem_nil))) mix Try.func71 (c := math_bits_Len64.C) (by kernel_rfl) fun ⟨a0, ()⟩ _ h => ⟨FU, (math_bits_Len64.ev FU a0).trans h⟩
noncomputable def slices_Clone_uint32_uint32.sp : Ev.Spec := ⟨[(.sl tyW)], [.fresh tyW], fun x => slices_Clone_uint32_uint32.f FU x.1⟩
noncomputable abbrev slices_Clone_uint32_uint32.F := slices_Clone_uint32_uint32.sp.F
theorem slices_Clone_uint32_uint32.ent : Entered Try.prog 48 := entered_of Try.func48 (by kernel_rfl) (c := slices_Clone_uint32_uint32.C) (by kernel_rfl)
theorem slices_Clone_uint32_uint32.ok {tr : Bool} : Pure tr Try.prog 48 slices_Clone_uint32_uint32.sp := pure_of_eval (E := slices_Clone_uint32_uint32.E) (envOf_ok _ _ _ (pick_ok (fun _ h => absurd h List.not_mem_nil)) (pick_ext (fun _ h => absurd h List.not_mem_nil))) mix Try.func48 (c := slices_Clone_uint32_uint32.C) (by kernel_rfl) fun ⟨a0, ()⟩ _ h => ⟨FU, (slices_Clone_uint32_uint32.ev FU a0).trans h⟩
noncomputable def slices_Compact_uint32_uint32.sp : Ev.BySpec := ⟨[.give tyW], [.fresh tyW], fun x => match x.1 with | some g0 => slices_Compact_uint32_uint32.f FU g0 | none => none⟩
noncomputable abbrev slices_Compact_uint32_uint32.F := slices_Compact_uint32_uint32.sp.F
theorem slices_Compact_uint32_uint32.ent : Entered Try.prog 34 := entered_of Try.func34 (by kernel_rfl) (c := slices_Compact_uint32_uint32.C) (by kernel_rfl)
theorem slices_Compact_uint32_uint32.ok {tr : Bool} : By tr Try.prog 34 slices_Compact_uint32_uint32.sp := by_of_eval (E := slices_Compact_uint32_uint32.E) (envOf_ok _ _ _ (pick_ok (fun _ h => absurd h List.not_mem_nil)) (pick_ext (fun _ h => absurd h List.not_mem_nil))) mix Try.func34 (c := slices_Compact_uint32_uint32.C) (by kernel_rfl) fun x _ h => by
  obtain ⟨a0, _⟩ := x
  cases a0 with
  | none => cases h
  | some a0 =>
  exact ⟨FU, (slices_Compact_uint32_uint32.ev FU a0).trans h⟩
noncomputable def Keep_Tame.sp : Ev.Spec := ⟨[tyAttrs, tyW], [.pure tyAttrs], fun x => Keep_Tame.f Book_Within.F Keep_Next.F Ref7_Put.F FU x.1 x.2.1⟩
noncomputable abbrev Keep_Tame.F := Keep_Tame.sp.F
theorem Keep_Tame.ent : Entered Try.prog 7 := entered_of Try.func7 (by kernel_rfl) (c := Keep_Tame.C) (by kernel_rfl)
theorem Keep_Tame.ok {tr : Bool} : Pure tr Try.prog 7 Keep_Tame.sp := pure_of_eval (E := Keep_Tame.E Book_Within.F Keep_Next.F Ref7_Put.F) (envOf_ok _ _ _ (pick_ok (List.forall_mem_cons.2 ⟨⟨Book_Within.ent, Book_Within.ok⟩, (List.forall_mem_cons.2 ⟨⟨Keep_Next.ent, Keep_Next.ok⟩, (fun _ h => absurd h List.not_mem_nil)⟩)⟩)) (pick_ext (List.forall_mem_cons.2 ⟨⟨Ref7_Put.ent, ext_of_by Ref7_Put.ok, ext_local Ref7_Put.sp⟩, (fun _ h => absurd h List.not_mem_nil)⟩))) mix Try.func7 (c := Keep_Tame.C) (by kernel_rfl) fun ⟨a0, a1, ()⟩ _ h => ⟨FU, (Keep_Tame.ev Book_Within.F Keep_Next.F Ref7_Put.F FU a0 a1).trans h⟩
noncomputable def Ref6_Order.sp : Ev.Spec := ⟨[(.sl tySeg), (.sl tySeg)], [.pure tyI], fun x => Ref6_Order.f Ref6_side.F FU x.1 x.2.1⟩
noncomputable abbrev Ref6_Order.F := Ref6_Order.sp.F
theorem Ref6_Order.ent : Entered Try.prog 43 := entered_of Try.func43 (by kernel_rfl) (c := Ref6_Order.C) (by kernel_rfl)
theorem Ref6_Order.ok {tr : Bool} : Pure tr Try.prog 43 Ref6_Order.sp := pure_of_eval (E := Ref6_Order.E Ref6_side.F) (envOf_ok _ _ _ (pick_ok (List.forall_mem_cons.2 ⟨⟨Ref6_side.ent, Ref6_side.ok⟩, (fun _ h => absurd h List.not_mem_nil)⟩)) (pick_ext (fun _ h => absurd h List.not_mem_nil))) mix Try.func43 (c := Ref6_Order.C) (by kernel_rfl) fun ⟨a0, a1, ()⟩ _ h => ⟨FU, (Ref6_Order.ev Ref6_side.F FU a0 a1).trans h⟩
noncomputable def Ref7_Canon.sp : Ev.Spec := ⟨[tyAttrs], [.pure tyAttrs], fun x => Ref7_Canon.f Ref6_Copy.F Ref7_Put.F FU x.1⟩
noncomputable abbrev Ref7_Canon.F := Ref7_Canon.sp.F
theorem Ref7_Canon.ent : Entered Try.prog 41 := entered_of Try.func41 (by kernel_rfl) (c := Ref7_Canon.C) (by kernel_rfl)
theorem Ref7_Canon.ok {tr : Bool} : Pure tr Try.prog 41 Ref7_Canon.sp := pure_of_eval (E := Ref7_Canon.E Ref6_Copy.F Ref7_Put.F) (envOf_ok _ _ _ (pick_ok (List.forall_mem_cons.2 ⟨⟨Ref6_Copy.ent, Ref6_Copy.ok⟩, (fun _ h => absurd h List.not_mem_nil)⟩)) (pick_ext (List.forall_mem_cons.2 ⟨⟨Ref7_Put.ent, ext_of_by Ref7_Put.ok, ext_local Ref7_Put.sp⟩, (fun _ h => absurd h List.not_mem_nil)⟩))) mix Try.func41 (c := Ref7_Canon.C) (by kernel_rfl) fun ⟨a0, ()⟩ _ h => ⟨FU, (Ref7_Canon.ev Ref6_Copy.F Ref7_Put.F FU a0).trans h⟩
noncomputable def Ref7_Order.sp : Ev.Spec := ⟨[tyAttrs, tyAttrs], [.pure tyI], fun x => Ref7_Order.f Ref7_Canon.F Ref7_side.F Ref6_Order.F FU x.1 x.2.1⟩
noncomputable abbrev Ref7_Order.F := Ref7_Order.sp.F
theorem Ref7_Order.ent : Entered Try.prog 24 := entered_of Try.func24 (by kernel_rfl) (c := Ref7_Order.C) (by kernel_rfl)
theorem Ref7_Order.ok {tr : Bool} : Pure tr Try.prog 24 Ref7_Order.sp := pure_of_eval (E := Ref7_Order.E Ref7_Canon.F Ref7_side.F Ref6_Order.F) (envOf_ok _ _ _ (pick_ok (List.forall_mem_cons.2 ⟨⟨Ref7_Canon.ent, Ref7_Canon.ok⟩, (List.forall_mem_cons.2 ⟨⟨Ref7_side.ent, Ref7_side.ok⟩, (List.forall_mem_cons.2 ⟨⟨Ref6_Order.ent, Ref6_Order.ok⟩, (fun _ h => absurd h List.not_mem_nil)⟩)⟩)⟩)) (pick_ext (fun _ h => absurd h List.not_mem_nil))) mix Try.func24 (c := Ref7_Order.C) (by kernel_rfl) fun ⟨a0, a1, ()⟩ _ h => ⟨FU, (Ref7_Order.ev Ref7_Canon.F Ref7_side.F Ref6_Order.F FU a0 a1).trans h⟩
noncomputable def Ref7_Same.sp : Ev.Spec := ⟨[tyAttrs, tyAttrs], [.pure tyB], fun x => Ref7_Same.f Ref7_Order.F FU x.1 x.2.1⟩
noncomputable abbrev Ref7_Same.F := Ref7_Same.sp.F
theorem Ref7_Same.ent : Entered Try.prog 11 := entered_of Try.func11 (by kernel_rfl) (c := Ref7_Same.C) (by kernel_rfl)
theorem Ref7_Same.ok {tr : Bool} : Pure tr Try.prog 11 Ref7_Same.sp := pure_of_eval (E := Ref7_Same.E Ref7_Order.F) (envOf_ok _ _ _ (pick_ok (List.forall_mem_cons.2 ⟨⟨Ref7_Order.ent, Ref7_Order.ok⟩, (fun _ h => absurd h List.not_mem_nil)⟩)) (pick_ext (fun _ h => absurd h List.not_mem_nil))) mix Try.func11 (c := Ref7_Same.C) (by kernel_rfl) fun ⟨a0, a1, ()⟩ _ h => ⟨FU, (Ref7_Same.ev Ref7_Order.F FU a0 a1).trans h⟩
noncomputable def aspath_Copy.sp : Ev.Spec := ⟨[(.sl tySeg)], [.fresh tySeg], fun x => aspath_Copy.f slices_Clone_uint32_uint32.F FU x.1⟩
noncomputable abbrev aspath_Copy.F := aspath_Copy.sp.F
theorem aspath_Copy.ent : Entered Try.prog 33 := entered_of Try.func33 (by kernel_rfl) (c := aspath_Copy.C) (by kernel_rfl)
theorem aspath_Copy.ok {tr : Bool} : Pure tr Try.prog 33 aspath_Copy.sp := pure_of_eval (E := aspath_Copy.E slices_Clone_uint32_uint32.F) (envOf_ok _ _ _ (pick_ok (List.forall_mem_cons.2 ⟨⟨slices_Clone_uint32_uint32.ent, slices_Clone_uint32_uint32.ok⟩, (fun _ h => absurd h List.not_mem_nil)⟩)) (pick_ext (fun _ h => absurd h List.not_mem_nil))) mix Try.func33 (c := aspath_Copy.C) (by kernel_rfl) fun ⟨a0, ()⟩ _ h => ⟨FU, (aspath_Copy.ev slices_Clone_uint32_uint32.F FU a0).trans h⟩
noncomputable def aspath_Right.sp : Ev.Spec := ⟨[(.sl tySeg)], [.pure tyB], fun x => aspath_Right.f aspath_right.F FU x.1⟩
noncomputable abbrev aspath_Right.F := aspath_Right.sp.F
theorem aspath_Right.ent : Entered Try.prog 30 := entered_of Try.func30 (by kernel_rfl) (c := aspath_Right.C) (by kernel_rfl)
theorem aspath_Right.ok {tr : Bool} : Pure tr Try.prog 30 aspath_Right.sp := pure_of_eval (E := aspath_Right.E aspath_right.F) (envOf_ok _ _ _ (pick_ok (List.forall_mem_cons.2 ⟨⟨aspath_right.ent, aspath_right.ok⟩, (fun _ h => absurd h List.not_mem_nil)⟩)) (pick_ext (fun _ h => absurd h List.not_mem_nil))) mix Try.func30 (c := aspath_Right.C) (by kernel_rfl) fun ⟨a0, ()⟩ _ h => ⟨FU, (aspath_Right.ev aspath_right.F FU a0).trans h⟩
noncomputable def attr_Right.sp : Ev.Spec := ⟨[tyAttrs], [.pure tyB], fun x => attr_Right.f aspath_Right.F attr_Good.F attr_rising.F FU x.1⟩
noncomputable abbrev attr_Right.F := attr_Right.sp.F
theorem attr_Right.ent : Entered Try.prog 16 := entered_of Try.func16 (by kernel_rfl) (c := attr_Right.C) (by kernel_rfl)
theorem attr_Right.ok {tr : Bool} : Pure tr Try.prog 16 attr_Right.sp := pure_of_eval (E := attr_Right.E aspath_Right.F attr_Good.F attr_rising.F) (envOf_ok _ _ _ (pick_ok (List.forall_mem_cons.2 ⟨⟨aspath_Right.ent, aspath_Right.ok⟩, (List.forall_mem_cons.2 ⟨⟨attr_Good.ent, attr_Good.ok⟩, (List.forall_mem_cons.2 ⟨⟨attr_rising.ent, attr_rising.ok⟩, (fun _ h => absurd h List.not_mem_nil)⟩)⟩)⟩)) (pick_ext (fun _ h => absurd h List.not_mem_nil))) mix Try.func16 (c := attr_Right.C) (by kernel_rfl) fun ⟨a0, ()⟩ _ h => ⟨FU, (attr_Right.ev aspath_Right.F attr_Good.F attr_rising.F FU a0).trans h⟩
noncomputable def cmp_Compare_int.sp : Ev.Spec := ⟨[tyI, tyI], [.pure tyI], fun x => cmp_Compare_int.f cmp_isNaN_int.F FU x.1 x.2.1⟩
noncomputable abbrev cmp_Compare_int.F := cmp_Compare_int.sp.F
theorem cmp_Compare_int.ent : Entered Try.prog 82 := entered_of Try.func82 (by kernel_rfl) (c := cmp_Compare_int.C) (by kernel_rfl)
theorem cmp_Compare_int.ok {tr : Bool} : Pure tr Try.prog 82 cmp_Compare_int.sp := pure_of_eval (E := cmp_Compare_int.E cmp_isNaN_int.F) (envOf_ok _ _ _ (pick_ok (List.forall_mem_cons.2 ⟨⟨cmp_isNaN_int.ent, cmp_isNaN_int.ok⟩, (fun _ h => absurd h List.not_mem_nil)⟩)) (pick_ext (fun _ h => absurd h List.not_mem_nil))) mix Try.func82 (c := cmp_Compare_int.C) (by kernel_rfl) fun ⟨a0, a1, ()⟩ _ h => ⟨FU, (cmp_Compare_int.ev cmp_isNaN_int.F FU a0 a1).trans h⟩
noncomputable def cmp_Compare_uint32.sp : Ev.Spec := ⟨[tyW, tyW], [.pure tyI], fun x => cmp_Compare_uint32.f cmp_isNaN_uint32.F FU x.1 x.2.1⟩
noncomputable abbrev cmp_Compare_uint32.F := cmp_Compare_uint32.sp.F
theorem cmp_Compare_uint32.ent : Entered Try.prog 84 := entered_of Try.func84 (by kernel_rfl) (c := cmp_Compare_uint32.C) (by kernel_rfl)
theorem cmp_Compare_uint32.ok {tr : Bool} : Pure tr Try.prog 84 cmp_Compare_uint32.sp := pure_of_eval (E := cmp_Compare_uint32.E cmp_isNaN_uint32.F) (envOf_ok _ _ _ (pick_ok (List.forall_mem_cons.2 ⟨⟨cmp_isNaN_uint32.ent, cmp_isNaN_uint32.ok⟩, (fun _ h => absurd h List.not_mem_nil)⟩)) (pick_ext (fun _ h => absurd h List.not_mem_nil))) mix Try.func84 (c := cmp_Compare_uint32.C) (by kernel_rfl) fun ⟨a0, a1, ()⟩ _ h => ⟨FU, (cmp_Compare_uint32.ev cmp_isNaN_uint32.F FU a0 a1).trans h⟩
noncomputable def cmp_Less_uint32.sp : Ev.Spec := ⟨[tyW, tyW], [.pure tyB], fun x => cmp_Less_uint32.f cmp_isNaN_uint32.F FU x.1 x.2.1⟩
noncomputable abbrev cmp_Less_uint32.F := cmp_Less_uint32.sp.F
theorem cmp_Less_uint32.ent : Entered Try.prog 78 := entered_of Try.func78 (by kernel_rfl) (c := cmp_Less_uint32.C) (by kernel_rfl)
theorem cmp_Less_uint32.ok {tr : Bool} : Pure tr Try.prog 78 cmp_Less_uint32.sp := pure_of_eval (E := cmp_Less_uint32.E cmp_isNaN_uint32.F) (envOf_ok _ _ _ (pick_ok (List.forall_mem_cons.2 ⟨⟨cmp_isNaN_uint32.ent, cmp_isNaN_uint32.ok⟩, (fun _ h => absurd h List.not_mem_nil)⟩)) (pick_ext (fun _ h => absurd h List.not_mem_nil))) mix Try.func78 (c := cmp_Less_uint32.C) (by kernel_rfl) fun ⟨a0, a1, ()⟩ _ h => ⟨FU, (cmp_Less_uint32.ev cmp_isNaN_uint32.F FU a0 a1).trans h⟩
noncomputable def slices_Compare_uint32_uint32.sp : Ev.Spec := ⟨[(.sl tyW), (.sl tyW)], [.pure tyI], fun x => slices_Compare_uint32_uint32.f cmp_Compare_uint32.F FU x.1 x.2.1⟩
noncomputable abbrev slices_Compare_uint32_uint32.F := slices_Compare_uint32_uint32.sp.F
theorem slices_Compare_uint32_uint32.ent : Entered Try.prog 86 := entered_of Try.func86 (by kernel_rfl) (c := slices_Compare_uint32_uint32.C) (by kernel_rfl)
theorem slices_Compare_uint32_uint32.ok {tr : Bool} : Pure tr Try.prog 86 slices_Compare_uint32_uint32.sp := pure_of_eval (E := slices_Compare_uint32_uint32.E cmp_Compare_uint32.F) (envOf_ok _ _ _ (pick_ok (List.forall_mem_cons.2 ⟨⟨cmp_Compare_uint32.ent, cmp_Compare_uint32.ok⟩, (fun _ h => absurd h List.not_mem_nil)⟩)) (pick_ext (fun _ h => absurd h List.not_mem_nil))) mix Try.func86 (c := slices_Compare_uint32_uint32.C) (by kernel_rfl) fun ⟨a0, a1, ()⟩ _ h => ⟨FU, (slices_Compare_uint32_uint32.ev cmp_Compare_uint32.F FU a0 a1).trans h⟩
noncomputable def slices_insertionSortOrdered_uint32.sp : Ev.BySpec := ⟨[.row tyW, .pure tyI, .pure tyI], [], fun x => slices_insertionSortOrdered_uint32.f cmp_Less_uint32.F FU x.1 x.2.1 x.2.2.1⟩
noncomputable abbrev slices_insertionSortOrdered_uint32.F := slices_insertionSortOrdered_uint32.sp.F
theorem slices_insertionSortOrdered_uint32.ent : Entered Try.prog 72 := entered_of Try.func72 (by kernel_rfl) (c := slices_insertionSortOrdered_uint32.C) (by kernel_rfl)
theorem slices_insertionSortOrdered_uint32.ok {tr : Bool} : By tr Try.prog 72 slices_insertionSortOrdered_uint32.sp := by_of_eval (E := slices_insertionSortOrdered_uint32.E cmp_Less_uint32.F) (envOf_ok _ _ _ (pick_ok (List.forall_mem_cons.2 ⟨⟨cmp_Less_uint32.ent, cmp_Less_uint32.ok⟩, (fun _ h => absurd h List.not_mem_nil)⟩)) (pick_ext (fun _ h => absurd h List.not_mem_nil))) mix Try.func72 (c := slices_insertionSortOrdered_uint32.C) (by kernel_rfl) fun ⟨a0, a1, a2, ()⟩ _ h => ⟨FU, (slices_insertionSortOrdered_uint32.ev cmp_Less_uint32.F FU a0 a1 a2).trans h⟩
noncomputable def slices_order2Ordered_uint32.sp : Ev.BySpec := ⟨[.row tyW, .pure tyI, .pure tyI, .cell tyI], [.pure tyI, .pure tyI], fun x => slices_order2Ordered_uint32.f cmp_Less_uint32.F FU x.1 x.2.1 x.2.2.1 x.2.2.2.1⟩
noncomputable abbrev slices_order2Ordered_uint32.F := slices_order2Ordered_uint32.sp.F
theorem slices_order2Ordered_uint32.ent : Entered Try.prog 100 := entered_of Try.func100 (by kernel_rfl) (c := slices_order2Ordered_uint32.C) (by kernel_rfl)
theorem slices_order2Ordered_uint32.ok {tr : Bool} : By tr Try.prog 100 slices_order2Ordered_uint32.sp := by_of_eval (E := slices_order2Ordered_uint32.E cmp_Less_uint32.F) (envOf_ok _ _ _ (pick_ok (List.forall_mem_cons.2 ⟨⟨cmp_Less_uint32.ent, cmp_Less_uint32.ok⟩, (fun _ h => absurd h List.not_mem_nil)⟩)) (pick_ext (fun _ h => absurd h List.not_mem_nil))) mix Try.func100 (c := slices_order2Ordered_uint32.C) (by kernel_rfl) fun ⟨a0, a1, a2, a3, ()⟩ _ h => ⟨FU, (slices_order2Ordered_uint32.ev cmp_Less_uint32.F FU a0 a1 a2 a3).trans h⟩
noncomputable def slices_partialInsertionSortOrdered_uint32.sp : Ev.BySpec := ⟨[.row tyW, .pure tyI, .pure tyI], [.pure tyB], fun x => slices_partialInsertionSortOrdered_uint32.f cmp_Less_uint32.F FU x.1 x.2.1 x.2.2.1⟩
noncomputable abbrev slices_partialInsertionSortOrdered_uint32.F := slices_partialInsertionSortOrdered_uint32.sp.F
theorem slices_partialInsertionSortOrdered_uint32.ent : Entered Try.prog 77 := entered_of Try.func77 (by kernel_rfl) (c := slices_partialInsertionSortOrdered_uint32.C) (by kernel_rfl)
theorem slices_partialInsertionSortOrdered_uint32.ok {tr : Bool} : By tr Try.prog 77 slices_partialInsertionSortOrdered_uint32.sp := by_of_eval (E := slices_partialInsertionSortOrdered_uint32.E cmp_Less_uint32.F) (envOf_ok _ _ _ (pick_ok (List.forall_mem_cons.2 ⟨⟨cmp_Less_uint32.ent, cmp_Less_uint32.ok⟩, (fun _ h => absurd h List.not_mem_nil)⟩)) (pick_ext (fun _ h => absurd h List.not_mem_nil))) mix Try.func77 (c := slices_partialInsertionSortOrdered_uint32.C) (by kernel_rfl) fun ⟨a0, a1, a2, ()⟩ _ h => ⟨FU, (slices_partialInsertionSortOrdered_uint32.ev cmp_Less_uint32.F FU a0 a1 a2).trans h⟩
noncomputable def aspath_compare.sp : Ev.BySpec := ⟨[.pure tySeg, .pure tySeg], [.pure tyI], fun x => aspath_compare.f cmp_Compare_int.F slices_Compare_uint32_uint32.F cmp_Or_int.F FU x.1 x.2.1⟩
noncomputable abbrev aspath_compare.F := aspath_compare.sp.F
theorem aspath_compare.ent : Entered Try.prog 98 := entered_of Try.func98 (by kernel_rfl) (c := aspath_compare.C) (by kernel_rfl)
theorem aspath_compare.ok {tr : Bool} : By tr Try.prog 98 aspath_compare.sp := by_of_eval (E := aspath_compare.E cmp_Compare_int.F slices_Compare_uint32_uint32.F cmp_Or_int.F) (envOf_ok _ _ _ (pick_ok (List.forall_mem_cons.2 ⟨⟨cmp_Compare_int.ent, cmp_Compare_int.ok⟩, (List.forall_mem_cons.2 ⟨⟨slices_Compare_uint32_uint32.ent, slices_Compare_uint32_uint32.ok⟩, (List.forall_mem_cons.2 ⟨⟨cmp_Or_int.ent, cmp_Or_int.ok⟩, (fun _ h => absurd h List.not_mem_nil)⟩)⟩)⟩)) (pick_ext (fun _ h => absurd h List.not_mem_nil))) mix Try.func98 (c := aspath_compare.C) (by kernel_rfl) fun ⟨a0, a1, ()⟩ _ h => ⟨FU, (aspath_compare.ev cmp_Compare_int.F slices_Compare_uint32_uint32.F cmp_Or_int.F FU a0 a1).trans h⟩
noncomputable def slices_CompareFunc_api_Seg_api_Seg_api_Seg_api_Seg.sp : Ev.BySpec := ⟨[.pure (.sl tySeg), .pure (.sl tySeg), .fn 98 []], [.pure tyI], fun x => slices_CompareFunc_api_Seg_api_Seg_api_Seg_api_Seg.f aspath_compare.F FU x.1 x.2.1 x.2.2.1⟩
noncomputable abbrev slices_CompareFunc_api_Seg_api_Seg_api_Seg_api_Seg.F := slices_CompareFunc_api_Seg_api_Seg_api_Seg_api_Seg.sp.F
theorem slices_CompareFunc_api_Seg_api_Seg_api_Seg_api_Seg.ent : Entered Try.prog 97 := entered_of Try.func97 (by kernel_rfl) (c := slices_CompareFunc_api_Seg_api_Seg_api_Seg_api_Seg.C) (by kernel_rfl)
theorem slices_CompareFunc_api_Seg_api_Seg_api_Seg_api_Seg.ok {tr : Bool} : By tr Try.prog 97 slices_CompareFunc_api_Seg_api_Seg_api_Seg_api_Seg.sp := by_of_eval (E := slices_CompareFunc_api_Seg_api_Seg_api_Seg_api_Seg.E aspath_compare.F) (envOf_ok _ _ _ (pick_ok (fun _ h => absurd h List.not_mem_nil)) (pick_ext (List.forall_mem_cons.2 ⟨⟨aspath_compare.ent, ext_of_by aspath_compare.ok, ext_local aspath_compare.sp⟩, (fun _ h => absurd h List.not_mem_nil)⟩))) mix Try.func97 (c := slices_CompareFunc_api_Seg_api_Seg_api_Seg_api_Seg.C) (by kernel_rfl) fun ⟨a0, a1, a2, ()⟩ _ h => ⟨FU, (slices_CompareFunc_api_Seg_api_Seg_api_Seg_api_Seg.ev aspath_compare.F FU a0 a1 a2).trans h⟩
noncomputable def slices_medianOrdered_uint32.sp : Ev.BySpec := ⟨[.row tyW, .pure tyI, .pure tyI, .pure tyI, .cell tyI], [.pure tyI], fun x => slices_medianOrdered_uint32.f slices_order2Ordered_uint32.F FU x.1 x.2.1 x.2.2.1 x.2.2.2.1 x.2.2.2.2.1⟩
noncomputable abbrev slices_medianOrdered_uint32.F := slices_medianOrdered_uint32.sp.F
theorem slices_medianOrdered_uint32.ent : Entered Try.prog 94 := entered_of Try.func94 (by kernel_rfl) (c := slices_medianOrdered_uint32.C) (by kernel_rfl)
theorem slices_medianOrdered_uint32.ok {tr : Bool} : By tr Try.prog 94 slices_medianOrdered_uint32.sp := by_of_eval (E := slices_medianOrdered_uint32.E slices_order2Ordered_uint32.F) (envOf_ok _ _ _ (pick_ok (fun _ h => absurd h List.not_mem_nil)) (pick_ext (List.forall_mem_cons.2 ⟨⟨slices_order2Ordered_uint32.ent, ext_of_by slices_order2Ordered_uint32.ok, ext_local slices_order2Ordered_uint32.sp⟩, (fun _ h => absurd h List.not_mem_nil)⟩))) mix Try.func94 (c := slices_medianOrdered_uint32.C) (by kernel_rfl) fun ⟨a0, a1, a2, a3, a4, ()⟩ _ h => ⟨FU, (slices_medianOrdered_uint32.ev slices_order2Ordered_uint32.F FU a0 a1 a2 a3 a4).trans h⟩
noncomputable def aspath_Cmp.sp : Ev.Spec := ⟨[(.sl tySeg), (.sl tySeg)], [.pure tyI], fun x => aspath_Cmp.f slices_CompareFunc_api_Seg_api_Seg_api_Seg_api_Seg.F FU x.1 x.2.1⟩
noncomputable abbrev aspath_Cmp.F := aspath_Cmp.sp.F
theorem aspath_Cmp.ent : Entered Try.prog 83 := entered_of Try.func83 (by kernel_rfl) (c := aspath_Cmp.C) (by kernel_rfl)
theorem aspath_Cmp.ok {tr : Bool} : Pure tr Try.prog 83 aspath_Cmp.sp := pure_of_eval (E := aspath_Cmp.E slices_CompareFunc_api_Seg_api_Seg_api_Seg_api_Seg.F) (envOf_ok _ _ _ (pick_ok (fun _ h => absurd h List.not_mem_nil)) (pick_ext (List.forall_mem_cons.2 ⟨⟨slices_CompareFunc_api_Seg_api_Seg_api_Seg_api_Seg.ent, ext_of_by slices_CompareFunc_api_Seg_api_Seg_api_Seg_api_Seg.ok, ext_local slices_CompareFunc_api_Seg_api_Seg_api_Seg_api_Seg.sp⟩, (fun _ h => absurd h List.not_mem_nil)⟩))) mix Try.func83 (c := aspath_Cmp.C) (by kernel_rfl) fun ⟨a0, a1, ()⟩ _ h => ⟨FU, (aspath_Cmp.ev slices_CompareFunc_api_Seg_api_Seg_api_Seg_api_Seg.F FU a0 a1).trans h⟩
noncomputable def slices_medianAdjacentOrdered_uint32.sp : Ev.BySpec := ⟨[.row tyW, .pure tyI, .cell tyI], [.pure tyI], fun x => slices_medianAdjacentOrdered_uint32.f slices_medianOrdered_uint32.F FU x.1 x.2.1 x.2.2.1⟩
noncomputable abbrev slices_medianAdjacentOrdered_uint32.F := slices_medianAdjacentOrdered_uint32.sp.F
theorem slices_medianAdjacentOrdered_uint32.ent : Entered Try.prog 93 := entered_of Try.func93 (by kernel_rfl) (c := slices_medianAdjacentOrdered_uint32.C) (by kernel_rfl)
theorem slices_medianAdjacentOrdered_uint32.ok {tr : Bool} : By tr Try.prog 93 slices_medianAdjacentOrdered_uint32.sp := by_of_eval (E := slices_medianAdjacentOrdered_uint32.E slices_medianOrdered_uint32.F) (envOf_ok _ _ _ (pick_ok (fun _ h => absurd h List.not_mem_nil)) (pick_ext (List.forall_mem_cons.2 ⟨⟨slices_medianOrdered_uint32.ent, ext_of_by slices_medianOrdered_uint32.ok, ext_local slices_medianOrdered_uint32.sp⟩, (fun _ h => absurd h List.not_mem_nil)⟩))) mix Try.func93 (c := slices_medianAdjacentOrdered_uint32.C) (by kernel_rfl) fun ⟨a0, a1, a2, ()⟩ _ h => ⟨FU, (slices_medianAdjacentOrdered_uint32.ev slices_medianOrdered_uint32.F FU a0 a1 a2).trans h⟩
noncomputable def slices_choosePivotOrdered_uint32.sp : Ev.BySpec := ⟨[.row tyW, .pure tyI, .pure tyI], [.pure tyI, .pure tyI], fun x => slices_choosePivotOrdered_uint32.f slices_medianAdjacentOrdered_uint32.F slices_medianOrdered_uint32.F FU x.1 x.2.1 x.2.2.1⟩
noncomputable abbrev slices_choosePivotOrdered_uint32.F := slices_choosePivotOrdered_uint32.sp.F
theorem slices_choosePivotOrdered_uint32.ent : Entered Try.prog 75 := entered_of Try.func75 (by kernel_rfl) (c := slices_choosePivotOrdered_uint32.C) (by kernel_rfl)
theorem slices_choosePivotOrdered_uint32.ok {tr : Bool} : By tr Try.prog 75 slices_choosePivotOrdered_uint32.sp := by_of_eval (E := slices_choosePivotOrdered_uint32.E slices_medianAdjacentOrdered_uint32.F slices_medianOrdered_uint32.F) (envOf_ok _ _ _ (pick_ok (fun _ h => absurd h List.not_mem_nil)) (pick_ext (List.forall_mem_cons.2 ⟨⟨slices_medianAdjacentOrdered_uint32.ent, ext_of_by slices_medianAdjacentOrdered_uint32.ok, ext_local slices_medianAdjacentOrdered_uint32.sp⟩, (List.forall_mem_cons.2 ⟨⟨slices_medianOrdered_uint32.ent, ext_of_by slices_medianOrdered_uint32.ok, ext_local slices_medianOrdered_uint32.sp⟩, (fun _ h => absurd h List.not_mem_nil)⟩)⟩))) mix Try.func75 (c := slices_choosePivotOrdered_uint32.C) (by kernel_rfl) fun ⟨a0, a1, a2, ()⟩ _ h => ⟨FU, (slices_choosePivotOrdered_uint32.ev slices_medianAdjacentOrdered_uint32.F slices_medianOrdered_uint32.F FU a0 a1 a2).trans h⟩
noncomputable def slices_pdqsortOrdered_uint32.sp : Ev.BySpec := ⟨[.row tyW, .pure tyI, .pure tyI, .pure tyI], [], fun x => slices_pdqsortOrdered_uint32.f slices_insertionSortOrdered_uint32.F slices_choosePivotOrdered_uint32.F slices_partialInsertionSortOrdered_uint32.F FU x.1 x.2.1 x.2.2.1 x.2.2.2.1⟩
noncomputable abbrev slices_pdqsortOrdered_uint32.F := slices_pdqsortOrdered_uint32.sp.F
theorem slices_pdqsortOrdered_uint32.ent : Entered Try.prog 60 := entered_of Try.func60 (by kernel_rfl) (c := slices_pdqsortOrdered_uint32.C) (by kernel_rfl)
theorem slices_pdqsortOrdered_uint32.ok {tr : Bool} : By tr Try.prog 60 slices_pdqsortOrdered_uint32.sp := by_of_eval (E := slices_pdqsortOrdered_uint32.E slices_insertionSortOrdered_uint32.F slices_choosePivotOrdered_uint32.F slices_partialInsertionSortOrdered_uint32.F) (envOf_ok _ _ _ (pick_ok (fun _ h => absurd h List.not_mem_nil)) (pick_ext (List.forall_mem_cons.2 ⟨⟨slices_insertionSortOrdered_uint32.ent, ext_of_by slices_insertionSortOrdered_uint32.ok, ext_local slices_insertionSortOrdered_uint32.sp⟩, (List.forall_mem_cons.2 ⟨⟨slices_choosePivotOrdered_uint32.ent, ext_of_by slices_choosePivotOrdered_uint32.ok, ext_local slices_choosePivotOrdered_uint32.sp⟩, (List.forall_mem_cons.2 ⟨⟨slices_partialInsertionSortOrdered_uint32.ent, ext_of_by slices_partialInsertionSortOrdered_uint32.ok, ext_local slices_partialInsertionSortOrdered_uint32.sp⟩, (fun _ h => absurd h List.not_mem_nil)⟩)⟩)⟩))) mix Try.func60 (c := slices_pdqsortOrdered_uint32.C) (by kernel_rfl) fun ⟨a0, a1, a2, a3, ()⟩ _ h => ⟨FU, (slices_pdqsortOrdered_uint32.ev slices_insertionSortOrdered_uint32.F slices_choosePivotOrdered_uint32.F slices_partialInsertionSortOrdered_uint32.F FU a0 a1 a2 a3).trans h⟩
noncomputable def slices_Sort_uint32_uint32.sp : Ev.BySpec := ⟨[.row tyW], [], fun x => slices_Sort_uint32_uint32.f math_bits_Len.F slices_pdqsortOrdered_uint32.F FU x.1⟩
noncomputable abbrev slices_Sort_uint32_uint32.F := slices_Sort_uint32_uint32.sp.F
theorem slices_Sort_uint32_uint32.ent : Entered Try.prog 50 := entered_of Try.func50 (by kernel_rfl) (c := slices_Sort_uint32_uint32.C) (by kernel_rfl)
theorem slices_Sort_uint32_uint32.ok {tr : Bool} : By tr Try.prog 50 slices_Sort_uint32_uint32.sp := by_of_eval (E := slices_Sort_uint32_uint32.E math_bits_Len.F slices_pdqsortOrdered_uint32.F) (envOf_ok _ _ _ (pick_ok (List.forall_mem_cons.2 ⟨⟨math_bits_Len.ent, math_bits_Len.ok⟩, (fun _ h => absurd h List.not_mem_nil)⟩)) (pick_ext (List.forall_mem_cons.2 ⟨⟨slices_pdqsortOrdered_uint32.ent, ext_of_by slices_pdqsortOrdered_uint32.ok, ext_local slices_pdqsortOrdered_uint32.sp⟩, (fun _ h => absurd h List.not_mem_nil)⟩))) mix Try.func50 (c := slices_Sort_uint32_uint32.C) (by kernel_rfl) fun ⟨a0, ()⟩ _ h => ⟨FU, (slices_Sort_uint32_uint32.ev math_bits_Len.F slices_pdqsortOrdered_uint32.F FU a0).trans h⟩
noncomputable def slices_Sorted_uint32.sp : Ev.BySpec := ⟨[.fn 51 [.sl tyW]], [.fresh tyW], fun x => slices_Sorted_uint32.f slices_Sort_uint32_uint32.F FU x.1⟩
noncomputable abbrev slices_Sorted_uint32.F := slices_Sorted_uint32.sp.F
theorem slices_Sorted_uint32.ent : Entered Try.prog 35 := entered_of Try.func35 (by kernel_rfl) (c := slices_Sorted_uint32.C) (by kernel_rfl)
theorem slices_Sorted_uint32.ok : By false Try.prog 35 slices_Sorted_uint32.sp := by_of_eval (E := slices_Sorted_uint32.E slices_Sort_uint32_uint32.F) (envOf_ok _ _ _ (pick_ok (fun _ h => absurd h List.not_mem_nil)) (pick_ext (List.forall_mem_cons.2 ⟨⟨slices_Sort_uint32_uint32.ent, ext_of_by slices_Sort_uint32_uint32.ok, ext_local slices_Sort_uint32_uint32.sp⟩, (List.forall_mem_cons.2 ⟨x_slices_Collect_uint32, (fun _ h => absurd h List.not_mem_nil)⟩)⟩))) mix Try.func35 (c := slices_Sorted_uint32.C) (by kernel_rfl) fun ⟨a0, ()⟩ _ h => ⟨FU, (slices_Sorted_uint32.ev slices_Sort_uint32_uint32.F FU a0).trans h⟩
noncomputable def attr_Canon.sp : Ev.Spec := ⟨[tyAttrs], [.pure tyAttrs], fun x => attr_Canon.f aspath_Copy.F slices_Sorted_uint32.F slices_Compact_uint32_uint32.F FU x.1⟩
noncomputable abbrev attr_Canon.F := attr_Canon.sp.F
theorem attr_Canon.ent : Entered Try.prog 17 := entered_of Try.func17 (by kernel_rfl) (c := attr_Canon.C) (by kernel_rfl)
theorem attr_Canon.ok : Pure false Try.prog 17 attr_Canon.sp := pure_of_eval (E := attr_Canon.E aspath_Copy.F slices_Sorted_uint32.F slices_Compact_uint32_uint32.F) (envOf_ok _ _ _ (pick_ok (List.forall_mem_cons.2 ⟨⟨aspath_Copy.ent, aspath_Copy.ok⟩, (fun _ h => absurd h List.not_mem_nil)⟩)) (pick_ext (List.forall_mem_cons.2 ⟨⟨slices_Sorted_uint32.ent, ext_of_by slices_Sorted_uint32.ok, ext_local slices_Sorted_uint32.sp⟩, (List.forall_mem_cons.2 ⟨⟨slices_Compact_uint32_uint32.ent, ext_of_by slices_Compact_uint32_uint32.ok, ext_local slices_Compact_uint32_uint32.sp⟩, (List.forall_mem_cons.2 ⟨x_slices_Values_uint32_uint32, (fun _ h => absurd h List.not_mem_nil)⟩)⟩)⟩))) mix Try.func17 (c := attr_Canon.C) (by kernel_rfl) fun ⟨a0, ()⟩ _ h => ⟨FU, (attr_Canon.ev aspath_Copy.F slices_Sorted_uint32.F slices_Compact_uint32_uint32.F FU a0).trans h⟩
noncomputable def attr_Cmp.sp : Ev.Spec := ⟨[tyAttrs, tyAttrs], [.pure tyI], fun x => attr_Cmp.f attr_Canon.F cmp_Compare_int.F aspath_Cmp.F cmp_Compare_uint32.F attr_truth.F slices_Compare_uint32_uint32.F cmp_Or_int.F FU x.1 x.2.1⟩
noncomputable abbrev attr_Cmp.F := attr_Cmp.sp.F
theorem attr_Cmp.ent : Entered Try.prog 61 := entered_of Try.func61 (by kernel_rfl) (c := attr_Cmp.C) (by kernel_rfl)
theorem attr_Cmp.ok : Pure false Try.prog 61 attr_Cmp.sp := pure_of_eval (E := attr_Cmp.E attr_Canon.F cmp_Compare_int.F aspath_Cmp.F cmp_Compare_uint32.F attr_truth.F slices_Compare_uint32_uint32.F cmp_Or_int.F) (envOf_ok _ _ _ (pick_ok (List.forall_mem_cons.2 ⟨⟨attr_Canon.ent, attr_Canon.ok⟩, (List.forall_mem_cons.2 ⟨⟨cmp_Compare_int.ent, cmp_Compare_int.ok⟩, (List.forall_mem_cons.2 ⟨⟨aspath_Cmp.ent, aspath_Cmp.ok⟩, (List.forall_mem_cons.2 ⟨⟨cmp_Compare_uint32.ent, cmp_Compare_uint32.ok⟩, (List.forall_mem_cons.2 ⟨⟨attr_truth.ent, attr_truth.ok⟩, (List.forall_mem_cons.2 ⟨⟨slices_Compare_uint32_uint32.ent, slices_Compare_uint32_uint32.ok⟩, (List.forall_mem_cons.2 ⟨⟨cmp_Or_int.ent, cmp_Or_int.ok⟩, (fun _ h => absurd h List.not_mem_nil)⟩)⟩)⟩)⟩)⟩)⟩)⟩)) (pick_ext (fun _ h => absurd h List.not_mem_nil))) mix Try.func61 (c := attr_Cmp.C) (by kernel_rfl) fun ⟨a0, a1, ()⟩ _ h => ⟨FU, (attr_Cmp.ev attr_Canon.F cmp_Compare_int.F aspath_Cmp.F cmp_Compare_uint32.F attr_truth.F slices_Compare_uint32_uint32.F cmp_Or_int.F FU a0 a1).trans h⟩
noncomputable def attr_Same.sp : Ev.Spec := ⟨[tyAttrs, tyAttrs], [.pure tyB], fun x => attr_Same.f attr_Cmp.F FU x.1 x.2.1⟩
noncomputable abbrev attr_Same.F := attr_Same.sp.F
theorem attr_Same.ent : Entered Try.prog 53 := entered_of Try.func53 (by kernel_rfl) (c := attr_Same.C) (by kernel_rfl)
theorem attr_Same.ok : Pure false Try.prog 53 attr_Same.sp := pure_of_eval (E := attr_Same.E attr_Cmp.F) (envOf_ok _ _ _ (pick_ok (List.forall_mem_cons.2 ⟨⟨attr_Cmp.ent, attr_Cmp.ok⟩, (fun _ h => absurd h List.not_mem_nil)⟩)) (pick_ext (fun _ h => absurd h List.not_mem_nil))) mix Try.func53 (c := attr_Same.C) (by kernel_rfl) fun ⟨a0, a1, ()⟩ _ h => ⟨FU, (attr_Same.ev attr_Cmp.F FU a0 a1).trans h⟩
noncomputable def adjout_Out_Want.sp : Ev.BySpec := ⟨[.deep (.box dtOut), .pure tyPrefix, .pure tyAttrs], [.pure tyI], fun x => adjout_Out_Want.f addr_Right.F attr_Right.F attr_Canon.F FU x.1 x.2.1 x.2.2.1⟩
noncomputable abbrev adjout_Out_Want.F := adjout_Out_Want.sp.F
theorem adjout_Out_Want.ent : Entered Try.prog 5 := entered_of Try.func5 (by kernel_rfl) (c := adjout_Out_Want.C) (by kernel_rfl)
theorem adjout_Out_Want.ok : By false Try.prog 5 adjout_Out_Want.sp := by_of_eval (E := adjout_Out_Want.E addr_Right.F attr_Right.F attr_Canon.F) (envOf_ok _ _ _ (pick_ok (List.forall_mem_cons.2 ⟨⟨addr_Right.ent, addr_Right.ok⟩, (List.forall_mem_cons.2 ⟨⟨attr_Right.ent, attr_Right.ok⟩, (List.forall_mem_cons.2 ⟨⟨attr_Canon.ent, attr_Canon.ok⟩, (fun _ h => absurd h List.not_mem_nil)⟩)⟩)⟩)) (pick_ext (fun _ h => absurd h List.not_mem_nil))) mix Try.func5 (c := adjout_Out_Want.C) (by kernel_rfl) fun ⟨a0, a1, a2, ()⟩ _ h => ⟨FU, (adjout_Out_Want.ev addr_Right.F attr_Right.F attr_Canon.F FU a0 a1 a2).trans h⟩
noncomputable def adjout_Out_pending.sp : Ev.Spec := ⟨[(.box tyadjout_Out), tyPrefix], [.pure tyB], fun x => adjout_Out_pending.f attr_Same.F FU x.1 x.2.1⟩
noncomputable abbrev adjout_Out_pending.F := adjout_Out_pending.sp.F
theorem adjout_Out_pending.ent : Entered Try.prog 38 := entered_of Try.func38 (by kernel_rfl) (c := adjout_Out_pending.C) (by kernel_rfl)
theorem adjout_Out_pending.ok : Pure false Try.prog 38 adjout_Out_pending.sp := pure_of_eval (E := adjout_Out_pending.E attr_Same.F) (envOf_ok _ _ _ (pick_ok (List.forall_mem_cons.2 ⟨⟨attr_Same.ent, attr_Same.ok⟩, (fun _ h => absurd h List.not_mem_nil)⟩)) (pick_ext (fun _ h => absurd h List.not_mem_nil))) mix Try.func38 (c := adjout_Out_pending.C) (by kernel_rfl) fun ⟨a0, a1, ()⟩ _ h => ⟨FU, (adjout_Out_pending.ev attr_Same.F FU a0 a1).trans h⟩
noncomputable def adjout_get.sp : Ev.BySpec := ⟨[.map tyPrefix tyAttrs, .pure tyPrefix], [.pure tyAttrs, .pure tyB], fun x => adjout_get.f attr_Canon.F FU x.1 x.2.1⟩
noncomputable abbrev adjout_get.F := adjout_get.sp.F
theorem adjout_get.ent : Entered Try.prog 28 := entered_of Try.func28 (by kernel_rfl) (c := adjout_get.C) (by kernel_rfl)
theorem adjout_get.ok : By false Try.prog 28 adjout_get.sp := by_of_eval (E := adjout_get.E attr_Canon.F) (envOf_ok _ _ _ (pick_ok (List.forall_mem_cons.2 ⟨⟨attr_Canon.ent, attr_Canon.ok⟩, (fun _ h => absurd h List.not_mem_nil)⟩)) (pick_ext (fun _ h => absurd h List.not_mem_nil))) mix Try.func28 (c := adjout_get.C) (by kernel_rfl) fun ⟨a0, a1, ()⟩ _ h => ⟨FU, (adjout_get.ev attr_Canon.F FU a0 a1).trans h⟩
noncomputable def adjout_Out_Pending.sp : Ev.Spec := ⟨[(.box tyadjout_Out)], [.fresh tyPrefix], fun x => adjout_Out_Pending.f adjout_Out_pending.F slices_SortFunc_api_Prefix_api_Prefix.F FU x.1⟩
noncomputable abbrev adjout_Out_Pending.F := adjout_Out_Pending.sp.F
theorem adjout_Out_Pending.ent : Entered Try.prog 22 := entered_of Try.func22 (by kernel_rfl) (c := adjout_Out_Pending.C) (by kernel_rfl)
theorem adjout_Out_Pending.ok : Pure false Try.prog 22 adjout_Out_Pending.sp := pure_of_eval (E := adjout_Out_Pending.E adjout_Out_pending.F slices_SortFunc_api_Prefix_api_Prefix.F) (envOf_ok _ _ _ (pick_ok (List.forall_mem_cons.2 ⟨⟨adjout_Out_pending.ent, adjout_Out_pending.ok⟩, (fun _ h => absurd h List.not_mem_nil)⟩)) (pick_ext (List.forall_mem_cons.2 ⟨⟨slices_SortFunc_api_Prefix_api_Prefix.ent, ext_of_by slices_SortFunc_api_Prefix_api_Prefix.ok, ext_local slices_SortFunc_api_Prefix_api_Prefix.sp⟩, (fun _ h => absurd h List.not_mem_nil)⟩))) mix Try.func22 (c := adjout_Out_Pending.C) (by kernel_rfl) fun ⟨a0, ()⟩ _ h => ⟨FU, (adjout_Out_Pending.ev adjout_Out_pending.F slices_SortFunc_api_Prefix_api_Prefix.F FU a0).trans h⟩
noncomputable def adjout_Out_Wanted.sp : Ev.BySpec := ⟨[.deep (.box dtOut), .pure tyPrefix], [.pure tyAttrs, .pure tyB], fun x => adjout_Out_Wanted.f adjout_get.F FU x.1 x.2.1⟩
noncomputable abbrev adjout_Out_Wanted.F := adjout_Out_Wanted.sp.F
theorem adjout_Out_Wanted.ent : Entered Try.prog 13 := entered_of Try.func13 (by kernel_rfl) (c := adjout_Out_Wanted.C) (by kernel_rfl)
theorem adjout_Out_Wanted.ok : By false Try.prog 13 adjout_Out_Wanted.sp := by_of_eval (E := adjout_Out_Wanted.E adjout_get.F) (envOf_ok _ _ _ (pick_ok (fun _ h => absurd h List.not_mem_nil)) (pick_ext (List.forall_mem_cons.2 ⟨⟨adjout_get.ent, ext_of_by adjout_get.ok, ext_local adjout_get.sp⟩, (fun _ h => absurd h List.not_mem_nil)⟩))) mix Try.func13 (c := adjout_Out_Wanted.C) (by kernel_rfl) fun ⟨a0, a1, ()⟩ _ h => ⟨FU, (adjout_Out_Wanted.ev adjout_get.F FU a0 a1).trans h⟩
noncomputable def adjout_Out_Take.sp : Ev.BySpec := ⟨[.deep (.box dtOut)], [.fresh tyadjout_Change], fun x => adjout_Out_Take.f adjout_Out_Pending.F adjout_Out_Wanted.F attr_Canon.F FU x.1⟩
noncomputable abbrev adjout_Out_Take.F := adjout_Out_Take.sp.F
theorem adjout_Out_Take.ent : Entered Try.prog 9 := entered_of Try.func9 (by kernel_rfl) (c := adjout_Out_Take.C) (by kernel_rfl)
theorem adjout_Out_Take.ok : By false Try.prog 9 adjout_Out_Take.sp := by_of_eval (E := adjout_Out_Take.E adjout_Out_Pending.F adjout_Out_Wanted.F attr_Canon.F) (envOf_ok _ _ _ (pick_ok (List.forall_mem_cons.2 ⟨⟨adjout_Out_Pending.ent, adjout_Out_Pending.ok⟩, (List.forall_mem_cons.2 ⟨⟨attr_Canon.ent, attr_Canon.ok⟩, (fun _ h => absurd h List.not_mem_nil)⟩)⟩)) (pick_ext (List.forall_mem_cons.2 ⟨⟨adjout_Out_Wanted.ent, ext_of_by adjout_Out_Wanted.ok, ext_local adjout_Out_Wanted.sp⟩, (fun _ h => absurd h List.not_mem_nil)⟩))) mix Try.func9 (c := adjout_Out_Take.C) (by kernel_rfl) fun ⟨a0, ()⟩ _ h => ⟨FU, (adjout_Out_Take.ev adjout_Out_Pending.F adjout_Out_Wanted.F attr_Canon.F FU a0).trans h⟩
noncomputable def L22_known.sp : Ev.Spec := ⟨[], [.pure tyB], fun x => L22_known.f adjout_New.F Keep_Tame.F adjout_Out_Want.F adjout_Out_Pending.F adjout_Out_Take.F adjout_Out_Lack.F FU ⟩
noncomputable abbrev L22_known.F := L22_known.sp.F
theorem L22_known.ent : Entered Try.prog 14 := entered_of Try.func14 (by kernel_rfl) (c := L22_known.C) (by kernel_rfl)
theorem L22_known.ok : Pure false Try.prog 14 L22_known.sp := pure_of_eval (E := L22_known.E adjout_New.F Keep_Tame.F adjout_Out_Want.F adjout_Out_Pending.F adjout_Out_Take.F adjout_Out_Lack.F) (envOf_ok _ _ _ (pick_ok (List.forall_mem_cons.2 ⟨⟨Keep_Tame.ent, Keep_Tame.ok⟩, (List.forall_mem_cons.2 ⟨⟨adjout_Out_Pending.ent, adjout_Out_Pending.ok⟩, (fun _ h => absurd h List.not_mem_nil)⟩)⟩)) (pick_ext (List.forall_mem_cons.2 ⟨⟨adjout_New.ent, ext_of_by adjout_New.ok, ext_local adjout_New.sp⟩, (List.forall_mem_cons.2 ⟨⟨adjout_Out_Want.ent, ext_of_by adjout_Out_Want.ok, ext_local adjout_Out_Want.sp⟩, (List.forall_mem_cons.2 ⟨⟨adjout_Out_Take.ent, ext_of_by adjout_Out_Take.ok, ext_local adjout_Out_Take.sp⟩, (List.forall_mem_cons.2 ⟨⟨adjout_Out_Lack.ent, ext_of_by adjout_Out_Lack.ok, ext_local adjout_Out_Lack.sp⟩, (fun _ h => absurd h List.not_mem_nil)⟩)⟩)⟩)⟩))) mix Try.func14 (c := L22_known.C) (by kernel_rfl) fun () _ h => ⟨FU, (L22_known.ev adjout_New.F Keep_Tame.F adjout_Out_Want.F adjout_Out_Pending.F adjout_Out_Take.F adjout_Out_Lack.F FU ).trans h⟩
noncomputable def L22_AdjoutTold.sp : Ev.Spec := ⟨[(.sl tyL22_Ask)], [.pure tyB], fun x => L22_AdjoutTold.f adjout_New.F L22_prefix.F Keep_Tame.F adjout_Out_Want.F adjout_Out_Lack.F adjout_Out_Take.F L22_at.F Ref7_Same.F adjout_Out_All.F adjout_Out_Wanted.F L22_known.F FU x.1⟩
noncomputable abbrev L22_AdjoutTold.F := L22_AdjoutTold.sp.F
theorem L22_AdjoutTold.ent : Entered Try.prog 3 := entered_of Try.func3 (by kernel_rfl) (c := L22_AdjoutTold.C) (by kernel_rfl)
theorem L22_AdjoutTold.ok : Pure false Try.prog 3 L22_AdjoutTold.sp := pure_of_eval (E := L22_AdjoutTold.E adjout_New.F L22_prefix.F Keep_Tame.F adjout_Out_Want.F adjout_Out_Lack.F adjout_Out_Take.F L22_at.F Ref7_Same.F adjout_Out_All.F adjout_Out_Wanted.F L22_known.F) (envOf_ok _ _ _ (pick_ok (List.forall_mem_cons.2 ⟨⟨L22_prefix.ent, L22_prefix.ok⟩, (List.forall_mem_cons.2 ⟨⟨Keep_Tame.ent, Keep_Tame.ok⟩, (List.forall_mem_cons.2 ⟨⟨Ref7_Same.ent, Ref7_Same.ok⟩, (List.forall_mem_cons.2 ⟨⟨adjout_Out_All.ent, adjout_Out_All.ok⟩, (List.forall_mem_cons.2 ⟨⟨L22_known.ent, L22_known.ok⟩, (fun _ h => absurd h List.not_mem_nil)⟩)⟩)⟩)⟩)⟩)) (pick_ext (List.forall_mem_cons.2 ⟨⟨adjout_New.ent, ext_of_by adjout_New.ok, ext_local adjout_New.sp⟩, (List.forall_mem_cons.2 ⟨⟨adjout_Out_Want.ent, ext_of_by adjout_Out_Want.ok, ext_local adjout_Out_Want.sp⟩, (List.forall_mem_cons.2 ⟨⟨adjout_Out_Lack.ent, ext_of_by adjout_Out_Lack.ok, ext_local adjout_Out_Lack.sp⟩, (List.forall_mem_cons.2 ⟨⟨adjout_Out_Take.ent, ext_of_by adjout_Out_Take.ok, ext_local adjout_Out_Take.sp⟩, (List.forall_mem_cons.2 ⟨⟨L22_at.ent, ext_of_by L22_at.ok, ext_local L22_at.sp⟩, (List.forall_mem_cons.2 ⟨⟨adjout_Out_Wanted.ent, ext_of_by adjout_Out_Wanted.ok, ext_local adjout_Out_Wanted.sp⟩, (fun _ h => absurd h List.not_mem_nil)⟩)⟩)⟩)⟩)⟩)⟩))) mix Try.func3 (c := L22_AdjoutTold.C) (by kernel_rfl) fun ⟨a0, ()⟩ _ h => ⟨FU, (L22_AdjoutTold.ev adjout_New.F L22_prefix.F Keep_Tame.F adjout_Out_Want.F adjout_Out_Lack.F adjout_Out_Take.F L22_at.F Ref7_Same.F adjout_Out_All.F adjout_Out_Wanted.F L22_known.F FU a0).trans h⟩
end BE
end
section
set_option linter.unusedVariables false
set_option linter.unusedSimpArgs false
namespace BE
open Go Go.Ev
theorem maxB {a k : Nat} (h : a ≤ 1000000000) (hk : k ≤ 200) : decide (a * k ≤ maxBytes) = true := by
  apply decide_eq_true
  have := Nat.mul_le_mul h hk
  unfold maxBytes
  omega
theorem ge0 (i : Nat) : decide ((0 : Int) ≤ (i : Nat)) = true := decide_eq_true (by omega)
theorem ltT {i n : Nat} (h : i < n) : decide ((i : Int) < (n : Nat)) = true := decide_eq_true (by omega)
theorem ltF {i n : Nat} (h : ¬ i < n) : decide ((i : Int) < (n : Nat)) = false := decide_eq_false (by omega)
theorem drop_getD {α : Type} {l : List α} {i : Nat} (h : i < l.length) (d : α) : l.drop i = l.getD i d :: l.drop (i + 1) := by
  rw [List.drop_eq_getElem_cons h, List.getD_eq_getElem?_getD, List.getElem?_eq_getElem h]
  rfl
theorem drop_all {α : Type} {l : List α} {i : Nat} (h : ¬ i < l.length) : l.drop i = [] := List.drop_eq_nil_of_le (by omega)
def orI (l : List Int) : Int := (l.find? (· != 0)).getD 0
theorem orI_zero : ∀ l : List Int, orI l = 0 ↔ ∀ x ∈ l, x = 0
  | [] => by simp [orI]
  | x :: l => by
    have ih := orI_zero l
    unfold orI at ih ⊢
    rw [List.find?_cons]
    by_cases hx : x = 0
    · subst hx
      simpa using ih
    · rw [show (x != 0) = true by simpa using hx]
      simp [hx]
theorem or_F (l : List Int) (hl : l.length < 1000000000) : cmp_Or_int.F (l, ()) = some (orI l, ()) := by
  show iterN (fun k0 s => cmp_Or_int.b0 l k0 s) FU (0, (l.length : Nat), 0) = _
  refine (iterN_eq (F := fun s : Int × Int × Int => some (orI (l.drop s.2.2.toNat), ())) (fun s => ∃ i : Nat, i ≤ l.length ∧ s = (0, ((l.length : Nat) : Int), (i : Int))) (fun s => l.length - s.2.2.toNat) ?_ FU _ ⟨0, Nat.zero_le _, rfl⟩ (FU_lt (by simp; omega))).trans (by simp)
  rintro s k ⟨i, hi, rfl⟩ hk
  unfold cmp_Or_int.b0
  simp only
  by_cases h : i < l.length
  · rw [ltT h, ge0]
    simp only [Bool.and_self, cond_true, Int.toNat_natCast]
    rw [drop_getD h 0, wrap_succ h (by omega)]
    unfold orI
    rw [List.find?_cons]
    by_cases h0 : l.getD i 0 = 0
    · rw [h0]
      simp only [bne_self_eq_false, cond_false]
      rw [hk _ ⟨i + 1, h, rfl⟩ (by simp; omega)]
      simp [orI]
    · rw [show (l.getD i 0 != 0) = true by simpa using h0]
      simp
  · rw [ltF h, drop_all (by simpa using h)]
    rfl
def cmpI (a b : Int) : Int := bif decide (a < b) then -1 else bif decide (a > b) then 1 else 0
theorem cmpI_zero (a b : Int) : cmpI a b = 0 ↔ a = b := by
  unfold cmpI
  by_cases h1 : a < b
  · rw [decide_eq_true h1]
    simp
    omega
  · rw [decide_eq_false h1]
    by_cases h2 : a > b
    · rw [decide_eq_true h2]
      simp
      omega
    · rw [decide_eq_false h2]
      simp
      omega
theorem cmp_F (a b : Int) : cmp_Compare_int.F (a, b, ()) = some (cmpI a b, ()) ∧ cmp_Compare_uint32.F (a, b, ()) = some (cmpI a b, ()) := by
  have h1 : ∀ x, cmp_isNaN_int.F (x, ()) = some (false, ()) := fun x => by show some (x != x, ()) = _; simp
  have h2 : ∀ x, cmp_isNaN_uint32.F (x, ()) = some (false, ()) := fun x => by show some (x != x, ()) = _; simp
  constructor
  · show cmp_Compare_int.b cmp_isNaN_int.F a b = _
    unfold cmp_Compare_int.b cmpI
    rw [h1, h1]
    simp only [Option.bind_some, cond_false]
    cases decide (a < b) <;> cases decide (a > b) <;> rfl
  · show cmp_Compare_uint32.b cmp_isNaN_uint32.F a b = _
    unfold cmp_Compare_uint32.b cmpI
    rw [h2, h2]
    simp only [Option.bind_some, cond_false]
    cases decide (a < b) <;> cases decide (a > b) <;> rfl
def cmpL {α : Type} (f : α → α → Int) : List α → List α → Int
  | [], [] => 0
  | [], _ :: _ => -1
  | _ :: _, [] => 1
  | x :: a, y :: b => bif f x y != 0 then f x y else cmpL f a b
theorem cmpL_zero {α : Type} {f : α → α → Int} : ∀ {a b : List α}, (∀ x ∈ a, ∀ y ∈ b, f x y = 0 ↔ x = y) → (cmpL f a b = 0 ↔ a = b)
  | [], [], _ => by simp [cmpL]
  | [], _ :: _, _ => by simp [cmpL]
  | _ :: _, [], _ => by simp [cmpL]
  | x :: a, y :: b, h => by
    have ih := cmpL_zero (a := a) (b := b) fun u hu v hv => h u (List.mem_cons_of_mem _ hu) v (List.mem_cons_of_mem _ hv)
    have h1 := h x List.mem_cons_self y List.mem_cons_self
    unfold cmpL
    by_cases h0 : f x y = 0
    · rw [h0]
      simp [ih, h1.1 h0]
    · rw [show (f x y != 0) = true by simpa using h0]
      simp only [cond_true, List.cons.injEq]
      constructor
      · intro e; exact absurd e h0
      · intro e; exact absurd (h1.2 e.1) h0
theorem compare_F (a b : List Int) (ha : a.length < 1000000000) (hb : b.length < 1000000000) : slices_Compare_uint32_uint32.F (a, b, ()) = some (cmpL cmpI a b, ()) := by
  show iterN (fun k0 s => slices_Compare_uint32_uint32.b0 cmp_Compare_uint32.F a b k0 s) FU ((a.length : Nat), 0) = _
  refine (iterN_eq (F := fun s : Int × Int => some (cmpL cmpI (a.drop s.2.toNat) (b.drop s.2.toNat), ())) (fun s => ∃ i : Nat, i ≤ a.length ∧ i ≤ b.length ∧ s = (((a.length : Nat) : Int), (i : Int))) (fun s => a.length - s.2.toNat) ?_ FU _ ⟨0, Nat.zero_le _, Nat.zero_le _, rfl⟩ (FU_lt (by simp; omega))).trans (by simp)
  rintro s k ⟨i, hi, hi2, rfl⟩ hk
  unfold slices_Compare_uint32_uint32.b0
  simp only [Int.toNat_natCast]
  by_cases h : i < a.length
  · rw [ltT h, ge0]
    simp only [Bool.and_self, cond_true, Int.toNat_natCast, Bool.true_and]
    by_cases h2 : i < b.length
    · rw [decide_eq_false (show ¬ (i : Int) ≥ (b.length : Nat) by omega), ltT h2, (cmp_F _ _).2, drop_getD h 0, drop_getD h2 0, wrap_succ h (by omega)]
      simp only [cond_false, cond_true, Option.bind_some, cmpL]
      rw [hk _ ⟨i + 1, h, h2, rfl⟩ (by simp; omega)]
      cases (cmpI (a.getD i 0) (b.getD i 0) != 0) <;> simp
    · rw [decide_eq_true (show (i : Int) ≥ (b.length : Nat) by omega), drop_getD h 0, drop_all h2]
      rfl
  · rw [ltF h, drop_all h]
    simp only [cond_false]
    by_cases h2 : a.length < b.length
    · rw [ltT h2, drop_getD (show i < b.length by omega) 0]
      rfl
    · rw [ltF h2, drop_all (show ¬ i < b.length by omega)]
      rfl
def cmpS (a b : TSeg) : Int := orI [cmpI a.1 b.1, cmpI ((a.2.length : Nat) : Int) ((b.2.length : Nat) : Int), cmpL cmpI a.2 b.2]
theorem cmpS_zero (a b : TSeg) : cmpS a b = 0 ↔ a = b := by
  unfold cmpS
  rw [orI_zero]
  simp only [List.mem_cons, List.not_mem_nil, or_false, forall_eq_or_imp, forall_eq, cmpI_zero]
  rw [cmpL_zero (fun x _ y _ => cmpI_zero x y)]
  constructor
  · rintro ⟨h1, _, h2⟩
    exact Prod.ext h1 h2
  · rintro rfl
    exact ⟨rfl, rfl, rfl⟩
theorem segs_F (a b : TSeg) (ha : a.2.length < 1000000000) (hb : b.2.length < 1000000000) : aspath_compare.F (a, b, ()) = some ((cmpS a b, ()), (a, b, ())) := by
  show aspath_compare.b cmp_Compare_int.F slices_Compare_uint32_uint32.F cmp_Or_int.F a b = _
  unfold aspath_compare.b
  rw [(cmp_F _ _).1, (cmp_F _ _).1, compare_F _ _ ha hb]
  simp only [Option.bind_some]
  rw [or_F _ (by simp)]
  rfl
def smallP (l : List TSeg) : Prop := l.length < 1000000000 ∧ ∀ s ∈ l, s.2.length < 1000000000
theorem getD_mem {α : Type} {l : List α} {i : Nat} (h : i < l.length) (d : α) : l.getD i d ∈ l := by
  rw [List.getD_eq_getElem?_getD, List.getElem?_eq_getElem h]
  exact List.getElem_mem _
theorem path_F (a b : List TSeg) (ha : smallP a) (hb : smallP b) : aspath_Cmp.F (a, b, ()) = some (cmpL cmpS a b, ()) := by
  suffices slices_CompareFunc_api_Seg_api_Seg_api_Seg_api_Seg.F (a, b, (), ()) = some ((cmpL cmpS a b, ()), (a, b, (), ())) by
    show aspath_Cmp.b _ a b = _
    unfold aspath_Cmp.b
    rw [this]
    rfl
  show iterN (fun k0 s => slices_CompareFunc_api_Seg_api_Seg_api_Seg_api_Seg.b0 aspath_compare.F a b () k0 s) FU ((a.length : Nat), 0) = _
  have ha1 := ha.1
  refine (iterN_eq (F := fun s : Int × Int => some ((cmpL cmpS (a.drop s.2.toNat) (b.drop s.2.toNat), ()), (a, b, (), ()))) (fun s => ∃ i : Nat, i ≤ a.length ∧ i ≤ b.length ∧ s = (((a.length : Nat) : Int), (i : Int))) (fun s => a.length - s.2.toNat) ?_ FU _ ⟨0, Nat.zero_le _, Nat.zero_le _, rfl⟩ (FU_lt (by simp; omega))).trans (by simp)
  rintro s k ⟨i, hi, hi2, rfl⟩ hk
  unfold slices_CompareFunc_api_Seg_api_Seg_api_Seg_api_Seg.b0
  simp only [Int.toNat_natCast]
  by_cases h : i < a.length
  · rw [ltT h, ge0]
    simp only [Bool.and_self, cond_true, Int.toNat_natCast, Bool.true_and]
    by_cases h2 : i < b.length
    · rw [decide_eq_false (show ¬ (i : Int) ≥ (b.length : Nat) by omega), ltT h2, segs_F _ _ (ha.2 _ (getD_mem h _)) (hb.2 _ (getD_mem h2 _)), drop_getD h tySeg.dflt, drop_getD h2 tySeg.dflt, wrap_succ h (by omega)]
      simp only [cond_false, cond_true, Option.bind_some, cmpL]
      rw [hk _ ⟨i + 1, h, h2, rfl⟩ (by simp; omega)]
      cases (cmpS (a.getD i tySeg.dflt) (b.getD i tySeg.dflt) != 0) <;> simp
    · rw [decide_eq_true (show (i : Int) ≥ (b.length : Nat) by omega), drop_getD h tySeg.dflt, drop_all h2]
      rfl
  · rw [ltF h, drop_all h]
    simp only [cond_false]
    by_cases h2 : a.length < b.length
    · rw [ltT h2, drop_getD (show i < b.length by omega) tySeg.dflt]
      rfl
    · rw [ltF h2, drop_all (show ¬ i < b.length by omega)]
      rfl
end BE
end
section
set_option linter.unusedVariables false
set_option linter.unusedSimpArgs false
namespace BE
open Go Go.Ev
def sdI (b : Bool) : Int := bif b then -1 else 1
theorem sdI_ne (b : Bool) : sdI b ≠ 0 := by cases b <;> decide
theorem side6 (b : Bool) : Ref6_side.F (b, ()) = some (sdI b, ()) := by cases b <;> rfl
theorem side7 (b : Bool) : Ref7_side.F (b, ()) = some (sdI b, ()) := by cases b <;> rfl
def fd : List Int → List Int → Option Int
  | x :: a, y :: b => bif x != y then some (sdI (decide (x < y))) else fd a b
  | _, _ => none
theorem fd_ne : ∀ {a b : List Int} {r : Int}, fd a b = some r → r ≠ 0
  | [], _, _, h => by cases h
  | _ :: _, [], _, h => by cases h
  | x :: a, y :: b, r, h => by
    unfold fd at h
    cases hc : (x != y) with
    | true =>
      rw [hc] at h
      injection h with h
      subst h
      exact sdI_ne _
    | false =>
      rw [hc] at h
      exact fd_ne (a := a) (b := b) h
theorem fd_none : ∀ {a b : List Int}, a.length = b.length → (fd a b = none ↔ a = b)
  | [], [], _ => by simp [fd]
  | [], _ :: _, h => by simp at h
  | _ :: _, [], h => by simp at h
  | x :: a, y :: b, h => by
    have ih := fd_none (a := a) (b := b) (by simpa using h)
    unfold fd
    by_cases hx : x = y
    · subst hx
      simpa using ih
    · rw [show (x != y) = true by simpa using hx]
      simp [hx]
def ordP : List TSeg → List TSeg → Int
  | [], [] => 0
  | [], _ :: _ => -1
  | _ :: _, [] => 1
  | x :: a, y :: b => bif x.1 != y.1 then sdI (decide (x.1 < y.1)) else bif ((x.2.length : Nat) : Int) != ((y.2.length : Nat) : Int) then sdI (decide (((x.2.length : Nat) : Int) < ((y.2.length : Nat) : Int))) else match fd x.2 y.2 with
    | some r => r
    | none => ordP a b
theorem ordP_zero : ∀ {a b : List TSeg}, ordP a b = 0 ↔ a = b
  | [], [] => by simp [ordP]
  | [], _ :: _ => by simp [ordP]
  | _ :: _, [] => by simp [ordP]
  | (k, x) :: a, (m, y) :: b => by
    have ih := ordP_zero (a := a) (b := b)
    unfold ordP
    simp only
    by_cases h1 : k = m
    · subst h1
      simp only [bne_self_eq_false, cond_false]
      by_cases h2 : x.length = y.length
      · rw [h2]
        simp only [bne_self_eq_false, cond_false]
        cases hf : fd x y with
        | some r =>
          simp only [List.cons.injEq, Prod.mk.injEq, true_and]
          constructor
          · intro e; exact absurd e (fd_ne hf)
          · rintro ⟨rfl, _⟩
            rw [(fd_none rfl).2 rfl] at hf
            cases hf
        | none =>
          have := (fd_none h2).1 hf
          simp only [List.cons.injEq, Prod.mk.injEq, true_and, this, ih]
      · rw [show (((x.length : Nat) : Int) != ((y.length : Nat) : Int)) = true by simp; omega]
        simp only [cond_true, List.cons.injEq, Prod.mk.injEq, true_and]
        constructor
        · intro e; exact absurd e (sdI_ne _)
        · rintro ⟨rfl, _⟩
          exact absurd rfl h2
    · rw [show (k != m) = true by simpa using h1]
      simp only [cond_true, List.cons.injEq, Prod.mk.injEq]
      constructor
      · intro e; exact absurd e (sdI_ne _)
      · rintro ⟨⟨h, _⟩, _⟩
        exact absurd h h1
theorem lens {α β : Type} {a : List α} {b : List β} {i : Nat} (ha : i ≤ a.length) (hb : i ≤ b.length) : (((a.length : Nat) : Int) != ((b.length : Nat) : Int)) = (((a.drop i).length : Int) != ((b.drop i).length : Int)) ∧ decide (((a.length : Nat) : Int) < ((b.length : Nat) : Int)) = decide (((a.drop i).length : Int) < ((b.drop i).length : Int)) := by
  rw [List.length_drop, List.length_drop]
  constructor
  · rw [Bool.eq_iff_iff]
    simp only [bne_iff_ne, ne_eq]
    omega
  · rw [decide_eq_decide]
    omega
theorem match_out {x : Int} (o : Option Int) : (match o with
    | some r => some (r, ())
    | none => some (x, ())) = some ((match o with
    | some r => r
    | none => x), ()) := by cases o <;> rfl
theorem order6_f {c0 : Bool × Unit → Option (Int × Unit)} (side6 : ∀ b, c0 (b, ()) = some (sdI b, ())) (a b : List TSeg) (ha : smallP a) (hb : smallP b) : Ref6_Order.f c0 FU a b = some (ordP a b, ()) := by
  have ha1 := ha.1
  have hb1 := hb.1
  show iterN (fun k0 s => Ref6_Order.b0 c0 a b (fun x t => Ref6_Order.l1 c0 FU a b x k0 FU t) k0 s) FU 0 = _
  refine (iterN_eq (F := fun s : Int => some (ordP (a.drop s.toNat) (b.drop s.toNat), ())) (fun s => ∃ i : Nat, i ≤ a.length ∧ i ≤ b.length ∧ s = (i : Int)) (fun s => a.length - s.toNat) ?_ FU _ ⟨0, Nat.zero_le _, Nat.zero_le _, rfl⟩ (FU_lt (by simp; omega))).trans (by simp)
  rintro s k ⟨i, hi, hi2, rfl⟩ hk
  unfold Ref6_Order.b0
  obtain ⟨e1, e2⟩ := lens hi hi2
  simp only [Int.toNat_natCast]
  by_cases h : i < a.length
  · by_cases h2 : i < b.length
    · have hx := ha.2 _ (getD_mem h tySeg.dflt)
      have hy := hb.2 _ (getD_mem h2 tySeg.dflt)
      simp only [ltT h, ltT h2, ge0, Bool.and_self, cond_true]
      rw [drop_getD h tySeg.dflt, drop_getD h2 tySeg.dflt]
      have hk1 := hk ((i + 1 : Nat) : Int) ⟨i + 1, h, h2, rfl⟩ (by simp; omega)
      unfold ordP
      cases ((a.getD i tySeg.dflt).1 != (b.getD i tySeg.dflt).1) with
      | true => simp only [cond_true, side6, Option.bind_some]
      | false =>
        simp only [cond_false]
        cases hl : ((((a.getD i tySeg.dflt).2.length : Nat) : Int) != (((b.getD i tySeg.dflt).2.length : Nat) : Int)) with
        | true => simp only [cond_true, side6, Option.bind_some]
        | false =>
          have hl : (a.getD i tySeg.dflt).2.length = (b.getD i tySeg.dflt).2.length := Int.ofNat_inj.1 (bne_eq_false_iff_eq.1 hl)
          simp only [cond_false]
          show iterN (fun k1 s => Ref6_Order.b1 c0 a b (i : Int) k k1 s) FU 0 = _
          refine (iterN_eq (F := fun s : Int => match fd ((a.getD i tySeg.dflt).2.drop s.toNat) ((b.getD i tySeg.dflt).2.drop s.toNat) with
            | some r => some (r, ())
            | none => some (ordP (a.drop (i + 1)) (b.drop (i + 1)), ())) (fun s => ∃ j : Nat, j ≤ (a.getD i tySeg.dflt).2.length ∧ s = (j : Int)) (fun s => (a.getD i tySeg.dflt).2.length - s.toNat) ?_ FU _ ⟨0, Nat.zero_le _, rfl⟩ (FU_lt (show (a.getD i tySeg.dflt).2.length - 0 < 4611686018427387904 by omega))).trans (match_out (fd (a.getD i tySeg.dflt).2 (b.getD i tySeg.dflt).2))
          rintro s k1 ⟨j, hj, rfl⟩ hk2
          unfold Ref6_Order.b1
          simp only [ltT h, ltT h2, ge0, Bool.and_self, cond_true, Int.toNat_natCast, Bool.true_and]
          by_cases hlt : j < (a.getD i tySeg.dflt).2.length
          · simp only [ltT hlt, ltT (show j < (b.getD i tySeg.dflt).2.length by omega), cond_true]
            rw [drop_getD hlt 0, drop_getD (show j < (b.getD i tySeg.dflt).2.length by omega) 0]
            unfold fd
            cases hc : ((a.getD i tySeg.dflt).2.getD j 0 != (b.getD i tySeg.dflt).2.getD j 0) with
            | true => simp only [cond_true, side6, Option.bind_some]
            | false =>
              simp only [cond_false]
              rw [wrap_succ hlt (by omega), hk2 _ ⟨j + 1, hlt, rfl⟩ (by simp only [Int.toNat_natCast]; omega)]
              simp only [Int.toNat_natCast]
          · simp only [ltF hlt, cond_false]
            rw [drop_all hlt, wrap_succ h (by omega), hk1]
            simp [fd]
    · simp only [ltT h, ltF h2, cond_true, cond_false]
      rw [e1, e2, drop_getD h tySeg.dflt, drop_all h2, show ((((a.getD i tySeg.dflt) :: a.drop (i + 1)).length : Int) != ((([] : List TSeg).length : Nat) : Int)) = true from bne_iff_ne.2 (by simp only [List.length_cons, List.length_nil]; omega), show decide ((((a.getD i tySeg.dflt) :: a.drop (i + 1)).length : Int) < ((([] : List TSeg).length : Nat) : Int)) = false from decide_eq_false (by simp only [List.length_cons, List.length_nil]; omega), side6]
      rfl
  · simp only [ltF h, cond_false]
    rw [e1, e2, drop_all h]
    by_cases h2 : i < b.length
    · rw [drop_getD h2 tySeg.dflt, show (((([] : List TSeg).length : Nat) : Int) != (((b.getD i tySeg.dflt) :: b.drop (i + 1)).length : Int)) = true from bne_iff_ne.2 (by simp only [List.length_cons, List.length_nil]; omega), show decide (((([] : List TSeg).length : Nat) : Int) < (((b.getD i tySeg.dflt) :: b.drop (i + 1)).length : Int)) = true from decide_eq_true (by simp only [List.length_cons, List.length_nil]; omega), side6]
      rfl
    · rw [drop_all h2]
      simp [ordP]
theorem order6_F (a b : List TSeg) (ha : smallP a) (hb : smallP b) : Ref6_Order.F (a, b, ()) = some (ordP a b, ()) := order6_f side6 a b ha hb
end BE
end
section
set_option linter.unusedVariables false
set_option linter.unusedSimpArgs false
namespace BE
open Go Go.Ev
theorem amb_eq {α R : Type} {K : α → Option R} {z : R} : ∀ {l : List α}, l ≠ [] → (∀ y ∈ l, K y = some z) → amb l K = some z
  | [], h, _ => absurd rfl h
  | [a], _, h => h a List.mem_cons_self
  | a :: b :: r, _, h => by
    unfold amb
    rw [h a List.mem_cons_self]
    simp only
    rw [if_pos (amb_eq (l := b :: r) (by simp) fun y hy => h y (List.mem_cons_of_mem _ hy))]
theorem nilB_ne (n : Nat) : nilB n ≠ [] := by cases n <;> simp [nilB]
theorem nilB_true {n : Nat} (h : true ∈ nilB n) : n = 0 := by
  cases n with
  | zero => rfl
  | succ n => simp [nilB] at h
theorem clone_F (l : List Int) (hl : l.length < 1000000000) : slices_Clone_uint32_uint32.F (l, ()) = some (l, ()) := by
  show slices_Clone_uint32_uint32.b l = _
  unfold slices_Clone_uint32_uint32.b
  refine amb_eq (nilB_ne _) fun y hy => ?_
  cases y with
  | true =>
    have : l = [] := List.eq_nil_of_length_eq_zero (nilB_true hy)
    subst this
    rfl
  | false =>
    simp only [cond_false]
    rw [maxB (by omega) (by omega)]
    rfl
theorem copy_f {c0 : List Int × Unit → Option (List Int × Unit)} (hc : ∀ l : List Int, l.length < 1000000000 → c0 (l, ()) = some (l, ())) (a : List TSeg) (ha : smallP a) : aspath_Copy.f c0 FU a = some (a, ()) := by
  have ha1 := ha.1
  show iterN (fun k0 s => aspath_Copy.b0 c0 a k0 s) FU ((a.length : Nat), 0, []) = _
  refine (iterN_eq (F := fun s : Int × Int × List TSeg => some (s.2.2 ++ a.drop s.2.1.toNat, ())) (fun s => ∃ i : Nat, i ≤ a.length ∧ s = (((a.length : Nat) : Int), (i : Int), a.take i)) (fun s => a.length - s.2.1.toNat) ?_ FU _ ⟨0, Nat.zero_le _, rfl⟩ (FU_lt (by simp; omega))).trans (by simp)
  rintro s k ⟨i, hi, rfl⟩ hk
  unfold aspath_Copy.b0
  simp only [Int.toNat_natCast]
  by_cases h : i < a.length
  · simp only [ltT h, ge0, Bool.and_self, cond_true]
    rw [hc _ (ha.2 _ (getD_mem h _))]
    simp only [Option.bind_some]
    rw [maxB (by rw [List.length_take]; omega) (by omega), wrap_succ h (by omega)]
    simp only [cond_true]
    have e : a.take i ++ [((a.getD i tySeg.dflt).1, (a.getD i tySeg.dflt).2)] = a.take (i + 1) := by
      rw [List.take_add_one, List.getD_eq_getElem?_getD, List.getElem?_eq_getElem h]
      rfl
    rw [show (List.take i a ++ [((List.getD a i tySeg.dflt).fst, (List.getD a i tySeg.dflt).snd)] : List TSeg) = a.take (i + 1) from e, hk _ ⟨i + 1, h, rfl⟩ (by simp only [Int.toNat_natCast]; omega)]
    simp only [Int.toNat_natCast, List.take_append_drop]
  · simp only [ltF h, cond_false]
    rw [drop_all h, List.append_nil]
theorem copy_F (a : List TSeg) (ha : smallP a) : aspath_Copy.F (a, ()) = some (a, ()) := copy_f clone_F a ha
theorem copy6_F (a : List TSeg) (ha : smallP a) : Ref6_Copy.F (a, ()) = some (a, ()) := by
  have ha1 := ha.1
  show iterN (fun k0 s => Ref6_Copy.b0 a k0 s) FU (0, []) = _
  refine (iterN_eq (F := fun s : Int × List TSeg => some (s.2 ++ a.drop s.1.toNat, ())) (fun s => ∃ i : Nat, i ≤ a.length ∧ s = ((i : Int), a.take i)) (fun s => a.length - s.1.toNat) ?_ FU _ ⟨0, Nat.zero_le _, rfl⟩ (FU_lt (by simp; omega))).trans (by simp)
  rintro s k ⟨i, hi, rfl⟩ hk
  unfold Ref6_Copy.b0
  simp only [Int.toNat_natCast]
  by_cases h : i < a.length
  · simp only [ltT h, ge0, Bool.and_self, cond_true]
    have hsz := ha.2 _ (getD_mem h tySeg.dflt)
    rw [maxB (by omega) (by omega), maxB (by rw [List.length_take]; omega) (by omega), wrap_succ h (by omega)]
    simp only [cond_true, List.nil_append]
    have e : a.take i ++ [((a.getD i tySeg.dflt).1, (a.getD i tySeg.dflt).2)] = a.take (i + 1) := by
      rw [List.take_add_one, List.getD_eq_getElem?_getD, List.getElem?_eq_getElem h]
      rfl
    rw [show (List.take i a ++ [((List.getD a i tySeg.dflt).fst, (List.getD a i tySeg.dflt).snd)] : List TSeg) = a.take (i + 1) from e, hk _ ⟨i + 1, h, rfl⟩ (by simp only [Int.toNat_natCast]; omega)]
    simp only [Int.toNat_natCast, List.take_append_drop]
  · simp only [ltF h, cond_false]
    rw [drop_all h, List.append_nil]
def Rises (l : List Int) : Prop := ∀ i, i + 1 < l.length → l.getD i 0 < l.getD (i + 1) 0
theorem less_F (a b : Int) : cmp_Less_uint32.F (a, b, ()) = some (decide (a < b), ()) := by
  show cmp_Less_uint32.b cmp_isNaN_uint32.F a b = _
  unfold cmp_Less_uint32.b
  rw [show cmp_isNaN_uint32.F (a, ()) = some (false, ()) by show some (a != a, ()) = _; simp]
  rfl
theorem ins_f {c0 : Int × Int × Unit → Option (Bool × Unit)} (hc : ∀ a b, c0 (a, b, ()) = some (decide (a < b), ())) {l : List Int} (hl : l.length < 1000000000) (hr : Rises l) : slices_insertionSortOrdered_uint32.f c0 FU l 0 (l.length : Nat) = some ((), (l, 0, ((l.length : Nat) : Int), ())) := by
  show iterN (fun k0 s => slices_insertionSortOrdered_uint32.b0 c0 l 0 (l.length : Nat) (fun x0 t => slices_insertionSortOrdered_uint32.l1 c0 FU l 0 (l.length : Nat) x0 k0 FU t) k0 s) FU (wI (0 + 1), l) = _
  refine iterN_eq (F := fun _ => some ((), (l, 0, ((l.length : Nat) : Int), ()))) (fun s : Int × List Int => ∃ i : Nat, 0 < i ∧ s = ((i : Int), l)) (fun s => l.length - s.1.toNat) ?_ FU _ ⟨1, by omega, rfl⟩ (FU_lt (show l.length - 1 < 4611686018427387904 by omega))
  rintro s k ⟨i, hi, rfl⟩ hk
  unfold slices_insertionSortOrdered_uint32.b0
  simp only []
  by_cases h : i < l.length
  · simp only [ltT h, cond_true]
    obtain ⟨m, hm⟩ := FU_more
    show iterN (fun k1 s => slices_insertionSortOrdered_uint32.b1 c0 l 0 (l.length : Nat) (i : Int) k k1 s) FU ((i : Int), l) = _
    rw [hm, show m + 100 = (m + 99) + 1 from rfl]
    show slices_insertionSortOrdered_uint32.b1 c0 l 0 (l.length : Nat) (i : Int) k (iterN (fun k1 s => slices_insertionSortOrdered_uint32.b1 c0 l 0 (l.length : Nat) (i : Int) k k1 s) (m + 99)) ((i : Int), l) = _
    unfold slices_insertionSortOrdered_uint32.b1
    have hlt := hr (i - 1) (by omega)
    rw [show i - 1 + 1 = i by omega] at hlt
    simp only [grd, ib]
    rw [wrap_pred hi (by omega : i ≤ l.length) (by omega)]
    simp only [ltT h, ge0, ltT (show i - 1 < l.length by omega), Bool.and_self, cond_true, Int.toNat_natCast, decide_eq_true (show (i : Int) > 0 by omega)]
    rw [hc, decide_eq_false (show ¬ l.getD i 0 < l.getD (i - 1) 0 by omega)]
    simp only [Option.bind_some, cond_false]
    rw [wrap_succ h (by omega)]
    exact hk _ ⟨i + 1, by omega, rfl⟩ (by simp only [Int.toNat_natCast]; omega)
  · simp only [ltF h, cond_false]
theorem ins_F {l : List Int} (hl : l.length < 1000000000) (hr : Rises l) : slices_insertionSortOrdered_uint32.F (l, 0, ((l.length : Nat) : Int), ()) = some ((), (l, 0, ((l.length : Nat) : Int), ())) := ins_f less_F hl hr
theorem rises_lt {l : List Int} (hr : Rises l) : ∀ (j i : Nat), i < j → j < l.length → l.getD i 0 < l.getD j 0
  | 0, i, h, _ => absurd h (Nat.not_lt_zero _)
  | j + 1, i, h, hj => by
    have h1 := hr j hj
    rcases Nat.lt_or_ge i j with h2 | h2
    · have := rises_lt hr j i h2 (by omega)
      omega
    · have : i = j := by omega
      subst this
      exact h1
theorem order2_F {l : List Int} (hr : Rises l) {i j : Nat} (hij : i < j) (hj : j < l.length) (n : Int) : slices_order2Ordered_uint32.F (l, (i : Int), (j : Int), n, ()) = some (((i : Int), (j : Int), ()), (l, (i : Int), (j : Int), n, ())) := by
  show slices_order2Ordered_uint32.b cmp_Less_uint32.F l i j n = _
  unfold slices_order2Ordered_uint32.b
  have := rises_lt hr j i hij hj
  simp only [ltT hj, ltT (show i < l.length by omega), ge0, Bool.and_self, cond_true, Int.toNat_natCast]
  rw [less_F, decide_eq_false (show ¬ l.getD j 0 < l.getD i 0 by omega)]
  rfl
theorem median_F {l : List Int} (hr : Rises l) {i j k : Nat} (hij : i < j) (hjk : j < k) (hk : k < l.length) (n : Int) : slices_medianOrdered_uint32.F (l, (i : Int), (j : Int), (k : Int), n, ()) = some (((j : Int), ()), (l, (i : Int), (j : Int), (k : Int), n, ())) := by
  show slices_medianOrdered_uint32.b slices_order2Ordered_uint32.F l i j k n = _
  unfold slices_medianOrdered_uint32.b
  rw [order2_F hr hij (by omega)]
  simp only [Option.bind_some]
  rw [order2_F hr hjk hk]
  simp only [Option.bind_some]
  rw [order2_F hr hij (by omega)]
  rfl
theorem pivot_F {l : List Int} (hr : Rises l) (h12 : 12 < l.length) (h50 : l.length < 50) : ∃ p : Int, slices_choosePivotOrdered_uint32.F (l, 0, ((l.length : Nat) : Int), ()) = some ((p, 1, ()), (l, 0, ((l.length : Nat) : Int), ())) := by
  show ∃ p : Int, slices_choosePivotOrdered_uint32.b slices_medianAdjacentOrdered_uint32.F slices_medianOrdered_uint32.F l 0 (l.length : Nat) = _
  unfold slices_choosePivotOrdered_uint32.b
  obtain ⟨q, hq⟩ : ∃ q : Nat, q = l.length / 4 := ⟨_, rfl⟩
  have e0 : wI (((l.length : Nat) : Int) - 0) = ((l.length : Nat) : Int) := by rw [wrap_id] <;> omega
  have e1 : ((l.length : Nat) : Int).tdiv 4 = (q : Int) := by rw [hq]; rfl
  rw [e0, decide_eq_true (show ((l.length : Nat) : Int) ≥ 8 by omega), decide_eq_false (show ¬ ((l.length : Nat) : Int) ≥ 50 by omega), e1]
  simp only [cond_true, cond_false]
  have w : ∀ m : Nat, m ≤ 3 → wI (0 + wI (wI (q : Int) * (m : Nat))) = ((q * m : Nat) : Int) := fun m hm => by
    have h1 : q * m ≤ 12 * 3 := Nat.mul_le_mul (by omega) hm
    have h2 : (q : Int) * (m : Nat) = ((q * m : Nat) : Int) := by simp
    rw [wrap_id (x := (q : Int)) (by omega) (by omega), h2, wrap_id (x := ((q * m : Nat) : Int)) (by omega) (by omega), wrap_id] <;> omega
  have w1 : wI (0 + wI (wI (q : Int) * 1)) = ((q * 1 : Nat) : Int) := w 1 (by omega)
  have w2 : wI (0 + wI (wI (q : Int) * 2)) = ((q * 2 : Nat) : Int) := w 2 (by omega)
  have w3 : wI (0 + wI (wI (q : Int) * 3)) = ((q * 3 : Nat) : Int) := w 3 (by omega)
  rw [w1, w2, w3, median_F hr (by omega) (by omega) (by omega)]
  exact ⟨_, rfl⟩
theorem part_f {c0 : Int × Int × Unit → Option (Bool × Unit)} (hc : ∀ a b, c0 (a, b, ()) = some (decide (a < b), ())) {l : List Int} (hl : l.length < 1000000000) (hr : Rises l) (h0 : 0 < l.length) : slices_partialInsertionSortOrdered_uint32.f c0 FU l 0 (l.length : Nat) = some ((true, ()), (l, 0, ((l.length : Nat) : Int), ())) := by
  obtain ⟨m, hm⟩ := FU_more
  show iterN (fun k0 s => slices_partialInsertionSortOrdered_uint32.b0 c0 l 0 (l.length : Nat) (fun x0 x1 t => slices_partialInsertionSortOrdered_uint32.l1 c0 FU l 0 (l.length : Nat) x0 x1 k0 FU t) k0 s) FU (wI (0 + 1), 0, l) = _
  rw [show FU = (m + 99) + 1 from hm]
  show slices_partialInsertionSortOrdered_uint32.l1 c0 (m + 99 + 1) l 0 (l.length : Nat) 0 l _ (m + 99 + 1) 1 = _
  rw [show (m + 99) + 1 = FU from hm.symm]
  show iterN (fun k1 s => slices_partialInsertionSortOrdered_uint32.b1 c0 l 0 (l.length : Nat) 0 l (fun x1_2 x0_3 t => slices_partialInsertionSortOrdered_uint32.l3 c0 FU l 0 (l.length : Nat) x1_2 x0_3 _ FU t) (fun x1_2 x0_3 t => slices_partialInsertionSortOrdered_uint32.l2 c0 FU l 0 (l.length : Nat) x1_2 x0_3 _ FU t) _ k1 s) FU 1 = _
  refine iterN_eq (F := fun _ => some ((true, ()), (l, 0, ((l.length : Nat) : Int), ()))) (fun s : Int => ∃ i : Nat, 0 < i ∧ i ≤ l.length ∧ s = (i : Int)) (fun s => l.length - s.toNat) ?_ FU _ ⟨1, by omega, h0, rfl⟩ (FU_lt (show l.length - 1 < 4611686018427387904 by omega))
  rintro s k ⟨i, hi, hi2, rfl⟩ hk
  unfold slices_partialInsertionSortOrdered_uint32.b1
  simp only [grd, ib]
  by_cases h : i < l.length
  · have hlt := hr (i - 1) (by omega)
    rw [show i - 1 + 1 = i by omega] at hlt
    rw [wrap_pred hi hi2 (by omega)]
    simp only [ltT h, ge0, ltT (show i - 1 < l.length by omega), Bool.and_self, cond_true, Int.toNat_natCast]
    rw [hc, decide_eq_false (show ¬ l.getD i 0 < l.getD (i - 1) 0 by omega)]
    simp only [Option.bind_some, Bool.not_false, cond_true]
    rw [wrap_succ h (by omega)]
    exact hk _ ⟨i + 1, by omega, h, rfl⟩ (by simp only [Int.toNat_natCast]; omega)
  · simp only [ltF h, cond_false]
    rw [show ((i : Int) == ((l.length : Nat) : Int)) = true from beq_iff_eq.2 (by omega)]
    rfl
theorem part_F {l : List Int} (hl : l.length < 1000000000) (hr : Rises l) (h0 : 0 < l.length) : slices_partialInsertionSortOrdered_uint32.F (l, 0, ((l.length : Nat) : Int), ()) = some ((true, ()), (l, 0, ((l.length : Nat) : Int), ())) := part_f less_F hl hr h0
theorem pdq_f {c0 : List Int × Int × Int × Unit → Option (Unit × (List Int × Int × Int × Unit))} {c1 : List Int × Int × Int × Unit → Option ((Int × Int × Unit) × (List Int × Int × Int × Unit))} {c2 : List Int × Int × Int × Unit → Option ((Bool × Unit) × (List Int × Int × Int × Unit))} {l : List Int} (hl : l.length < 50)
    (h0 : c0 (l, 0, ((l.length : Nat) : Int), ()) = some ((), (l, 0, ((l.length : Nat) : Int), ()))) (h1 : 12 < l.length → ∃ p : Int, c1 (l, 0, ((l.length : Nat) : Int), ()) = some ((p, 1, ()), (l, 0, ((l.length : Nat) : Int), ())))
    (h2 : 12 < l.length → c2 (l, 0, ((l.length : Nat) : Int), ()) = some ((true, ()), (l, 0, ((l.length : Nat) : Int), ()))) {n : Int} (hn : 12 < l.length → n ≠ 0) : slices_pdqsortOrdered_uint32.f c0 c1 c2 FU l 0 (l.length : Nat) n = some ((), (l, 0, ((l.length : Nat) : Int), n, ())) := by
  obtain ⟨m, hm⟩ := FU_more
  show iterN (fun k0 s => slices_pdqsortOrdered_uint32.b0 c0 c1 c2 l 0 (l.length : Nat) n k0 s) FU (true, true) = _
  rw [show FU = (m + 99) + 1 from hm]
  show slices_pdqsortOrdered_uint32.b0 c0 c1 c2 l 0 (l.length : Nat) n (iterN (fun k0 s => slices_pdqsortOrdered_uint32.b0 c0 c1 c2 l 0 (l.length : Nat) n k0 s) (m + 99)) (true, true) = _
  unfold slices_pdqsortOrdered_uint32.b0
  rw [show wI (((l.length : Nat) : Int) - 0) = ((l.length : Nat) : Int) by rw [wrap_id] <;> omega]
  simp only []
  by_cases h : l.length ≤ 12
  · rw [decide_eq_true (show ((l.length : Nat) : Int) ≤ 12 by omega), h0]
    rfl
  · obtain ⟨p, hp⟩ := h1 (by omega)
    rw [decide_eq_false (show ¬ ((l.length : Nat) : Int) ≤ 12 by omega), show (n == 0) = false from beq_eq_false_iff_ne.2 (hn (by omega)), hp]
    simp only [cond_false, Bool.not_true, Option.bind_some, cond_true, beq_self_eq_true, show ((1 : Int) == 2) = false from rfl]
    rw [h2 (by omega)]
    rfl
theorem bitLen_pos {n : Nat} (h : 0 < n) : ((Lib.bitLen n : Nat) : Int) ≠ 0 := by
  unfold Lib.bitLen Lib.bitLenAux
  rw [if_neg (by omega)]
  omega
theorem sort_F {l : List Int} (hl : l.length < 50) (hr : Rises l) : slices_Sort_uint32_uint32.F (l, ()) = some ((), (l, ())) := by
  show slices_Sort_uint32_uint32.b math_bits_Len.F slices_pdqsortOrdered_uint32.F l = _
  unfold slices_Sort_uint32_uint32.b
  have e1 : IntKind.u64.wrap ((l.length : Nat) : Int) = ((l.length : Nat) : Int) := by
    show ((l.length : Nat) : Int) % (2 ^ 64 : Nat) = _
    omega
  have e2 : math_bits_Len.F (((l.length : Nat) : Int), ()) = some (((Lib.bitLen l.length : Nat) : Int), ()) := by
    show (bif decide (0 ≤ ((l.length : Nat) : Int)) && decide (((l.length : Nat) : Int) ≤ 18446744073709551615) then some ((((Lib.bitLen ((l.length : Nat) : Int).toNat : Nat) : Int), ()) : Int × Unit) else none) = _
    rw [ge0, decide_eq_true (show ((l.length : Nat) : Int) ≤ 18446744073709551615 by omega)]
    rfl
  rw [e1, e2]
  simp only [Option.bind_some]
  rw [show slices_pdqsortOrdered_uint32.F (l, 0, ((l.length : Nat) : Int), ((Lib.bitLen l.length : Nat) : Int), ()) = some ((), (l, 0, ((l.length : Nat) : Int), ((Lib.bitLen l.length : Nat) : Int), ())) from
    pdq_f hl (ins_F (by omega) hr) (fun h => pivot_F hr h hl) (fun h => part_F (by omega) hr (by omega)) (fun h => bitLen_pos (by omega))]
  rfl
theorem sorted_F {l : List Int} (hl : l.length < 50) (hr : Rises l) : slices_Sorted_uint32.F ((l, ()), ()) = some ((l, ()), ((l, ()), ())) := by
  show slices_Sorted_uint32.b slices_Sort_uint32_uint32.F (l, ()) = _
  unfold slices_Sorted_uint32.b collected
  rw [show Nat.ble l.length 1000000000 = true from Nat.ble_eq_true_of_le (by omega)]
  simp only [cond_true, Option.bind_some]
  rw [sort_F hl hr]
  rfl
theorem compact_F {l : List Int} (hl : l.length < 50) (hr : Rises l) : slices_Compact_uint32_uint32.F (some l, ()) = some ((l, ()), (none, ())) := by
  show slices_Compact_uint32_uint32.f FU l = _
  unfold slices_Compact_uint32_uint32.f slices_Compact_uint32_uint32.b
  cases decide (((l.length : Nat) : Int) < 2) with
  | true => rfl
  | false =>
    simp only [cond_false]
    show iterN (fun k0 s => slices_Compact_uint32_uint32.b0 l (fun t => slices_Compact_uint32_uint32.l1 FU l k0 FU t) k0 s) FU 1 = _
    refine iterN_eq (F := fun _ => some ((l, ()), (none, ()))) (fun s : Int => ∃ i : Nat, 0 < i ∧ s = (i : Int)) (fun s => l.length - s.toNat) ?_ FU _ ⟨1, by omega, rfl⟩ (FU_lt (show l.length - 1 < 4611686018427387904 by omega))
    rintro s k ⟨i, hi, rfl⟩ hk
    unfold slices_Compact_uint32_uint32.b0
    simp only []
    by_cases h : i < l.length
    · have hlt := hr (i - 1) (by omega)
      rw [show i - 1 + 1 = i by omega] at hlt
      rw [wrap_pred hi (by omega : i ≤ l.length) (by omega)]
      simp only [ltT h, ge0, ltT (show i - 1 < l.length by omega), Bool.and_self, cond_true, Int.toNat_natCast]
      rw [show (l.getD i 0 == l.getD (i - 1) 0) = false from beq_eq_false_iff_ne.2 (by omega)]
      simp only [cond_false]
      rw [wrap_succ h (by omega)]
      exact hk _ ⟨i + 1, by omega, rfl⟩ (by simp only [Int.toNat_natCast]; omega)
    · simp only [ltF h, cond_false]
end BE
end
section
set_option linter.unusedVariables false
set_option linter.unusedSimpArgs false
namespace BE
open Go Go.Ev
structure attrOk (a : TAttrs) : Prop where
  path : smallP a.2.1
  med : a.2.2.2.1 = false → a.2.2.2.2.1 = 0
  pref : a.2.2.2.2.2.1 = false → a.2.2.2.2.2.2.1 = 0
  len : a.2.2.2.2.2.2.2.2.length ≤ 32
  ris : Rises a.2.2.2.2.2.2.2.2
def smallA (a : TAttrs) : Prop := smallP a.2.1 ∧ a.2.2.2.2.2.2.2.2.length < 1000000000
def segB (s : TSeg) : Bool := (s.1 == 1 || s.1 == 2) && (decide (1 ≤ s.2.length) && decide (s.2.length ≤ 255))
theorem seg_F (s : TSeg) : aspath_right.F (s, ()) = some (segB s, ()) := by
  show aspath_right.b s = _
  unfold aspath_right.b segB
  have h1 : decide (((s.2.length : Nat) : Int) ≥ 1) = decide (1 ≤ s.2.length) := by rw [decide_eq_decide]; omega
  have h2 : decide (((s.2.length : Nat) : Int) ≤ 255) = decide (s.2.length ≤ 255) := by rw [decide_eq_decide]; omega
  rw [h1, h2]
  cases (s.1 == 1) <;> cases (s.1 == 2) <;> cases decide (1 ≤ s.2.length) <;> rfl
def prB (l : List TSeg) : Bool := l.all segB && decide (l.length ≤ 16)
theorem pright_f {c0 : TSeg × Unit → Option (Bool × Unit)} (hc : ∀ s, c0 (s, ()) = some (segB s, ())) (a : List TSeg) (ha : a.length < 1000000000) : aspath_Right.f c0 FU a = some (prB a, ()) := by
  show iterN (fun k0 s => aspath_Right.b0 c0 a k0 s) FU ((a.length : Nat), 0) = _
  refine (iterN_eq (F := fun s : Int × Int => some ((a.drop s.2.toNat).all segB && decide (a.length ≤ 16), ())) (fun s => ∃ i : Nat, i ≤ a.length ∧ s = (((a.length : Nat) : Int), (i : Int))) (fun s => a.length - s.2.toNat) ?_ FU _ ⟨0, Nat.zero_le _, rfl⟩ (FU_lt (by simp; omega))).trans (by simp [prB])
  rintro s k ⟨i, hi, rfl⟩ hk
  unfold aspath_Right.b0
  simp only [Int.toNat_natCast]
  by_cases h : i < a.length
  · simp only [ltT h, ge0, Bool.and_self, cond_true]
    rw [hc, drop_getD h tySeg.dflt, List.all_cons]
    simp only [Option.bind_some]
    cases segB (a.getD i tySeg.dflt) with
    | false => rfl
    | true =>
      simp only [Bool.not_true, cond_false, Bool.true_and]
      rw [wrap_succ h (by omega)]
      exact hk _ ⟨i + 1, h, rfl⟩ (by simp only [Int.toNat_natCast]; omega)
  · simp only [ltF h, cond_false]
    rw [drop_all h]
    have h2 : decide (((a.length : Nat) : Int) ≤ 16) = decide (a.length ≤ 16) := by rw [decide_eq_decide]; omega
    rw [h2]
    simp
def goodB (n : Int) : Bool := bif Int.fdiv n ((2 : Int) ^ min (24 : Nat) IntKind.u32.bits) != 0 then bif Int.fdiv n ((2 : Int) ^ min (24 : Nat) IntKind.u32.bits) != 127 then decide (Int.fdiv n ((2 : Int) ^ min (24 : Nat) IntKind.u32.bits) < 224) else false else false
theorem good_F (n : Int) : attr_Good.F (n, ()) = some (goodB n, ()) ∧ True := by
  have : attr_Good.b n = some (goodB n, ()) := by
    unfold attr_Good.b goodB
    cases (Int.fdiv n ((2 : Int) ^ min (24 : Nat) IntKind.u32.bits) != 0) <;> cases (Int.fdiv n ((2 : Int) ^ min (24 : Nat) IntKind.u32.bits) != 127) <;> rfl
  exact ⟨this, trivial⟩
def risB : List Int → Bool
  | x :: y :: r => decide (x < y) && risB (y :: r)
  | _ => true
theorem risB_rises : ∀ {l : List Int}, risB l = true → Rises l
  | [], _ => fun i h => by simp at h
  | [x], _ => fun i h => by simp at h
  | x :: y :: r, h => by
    unfold risB at h
    rw [Bool.and_eq_true, decide_eq_true_eq] at h
    intro i hi
    cases i with
    | zero => exact h.1
    | succ i => exact risB_rises h.2 i (by simp at hi ⊢; omega)
theorem risB_step {l : List Int} {i : Nat} (h : i + 1 < l.length) : risB (l.drop i) = (decide (l.getD i 0 < l.getD (i + 1) 0) && risB (l.drop (i + 1))) := by
  rw [drop_getD (show i < l.length by omega) 0, drop_getD h 0]
  rfl
theorem risB_end {l : List Int} {i : Nat} (h : ¬ i + 1 < l.length) : risB (l.drop i) = true := by
  have : (l.drop i).length ≤ 1 := by rw [List.length_drop]; omega
  match h2 : l.drop i with
  | [] => rfl
  | [x] => rfl
  | x :: y :: r => rw [h2] at this; simp at this
theorem rising_F (l : List Int) (hl : l.length < 1000000000) : attr_rising.F (l, ()) = some (risB l, ()) := by
  show iterN (fun k0 s => attr_rising.b0 l k0 s) FU 1 = _
  refine (iterN_eq (F := fun s : Int => some (risB (l.drop (s.toNat - 1)), ())) (fun s => ∃ i : Nat, s = ((i + 1 : Nat) : Int)) (fun s => l.length - s.toNat) ?_ FU _ ⟨0, rfl⟩ (FU_lt (by simp; omega))).trans (by simp)
  rintro s k ⟨i, rfl⟩ hk
  unfold attr_rising.b0
  simp only [Int.toNat_natCast, Nat.add_sub_cancel]
  by_cases h : i + 1 < l.length
  · rw [wrap_pred (show 0 < i + 1 by omega) (show i + 1 ≤ l.length by omega) (by omega), Nat.add_sub_cancel, wrap_succ h (by omega)]
    simp only [ltT h, ge0, ltT (show i < l.length by omega), Bool.and_self, cond_true, Int.toNat_natCast]
    rw [risB_step h]
    by_cases hc : l.getD i 0 < l.getD (i + 1) 0
    · rw [decide_eq_false (show ¬ l.getD i 0 ≥ l.getD (i + 1) 0 by omega), decide_eq_true hc, hk _ ⟨i + 1, rfl⟩ (by simp only [Int.toNat_natCast]; omega)]
      rw [Int.toNat_natCast, Nat.add_sub_cancel, Bool.true_and]
      rfl
    · rw [decide_eq_true (show l.getD i 0 ≥ l.getD (i + 1) 0 by omega), decide_eq_false hc]
      rfl
  · simp only [ltF h, cond_false]
    rw [risB_end h]
def rgB (a : TAttrs) : Bool := !decide (a.1 < 0) && (!decide (a.1 > 2) && (prB a.2.1 && (goodB a.2.2.1 && ((a.2.2.2.1 || a.2.2.2.2.1 == 0) && ((a.2.2.2.2.2.1 || a.2.2.2.2.2.2.1 == 0) && (decide (a.2.2.2.2.2.2.2.2.length ≤ 32) && risB a.2.2.2.2.2.2.2.2))))))
theorem aright_F (a : TAttrs) (ha : smallA a) : attr_Right.F (a, ()) = some (rgB a, ()) := by
  obtain ⟨⟨ha1, _⟩, ha3⟩ := ha
  show attr_Right.b aspath_Right.F attr_Good.F attr_rising.F a = _
  obtain ⟨o, p, n, hm, m, hp, pf, at_, cs⟩ := a
  unfold attr_Right.b rgB
  simp only []
  rw [show aspath_Right.F (p, ()) = some (prB p, ()) from pright_f seg_F p ha1, (good_F n).1, rising_F cs ha3]
  simp only [Option.bind_some]
  have h2 : decide (((cs.length : Nat) : Int) ≤ 32) = decide (cs.length ≤ 32) := by rw [decide_eq_decide]; omega
  rw [h2]
  unfold bne
  cases decide (o < 0) <;> cases decide (o > 2) <;> cases prB p <;> cases goodB n <;> cases hm <;> cases (m == 0) <;> cases hp <;> cases (pf == 0) <;> cases decide (cs.length ≤ 32) <;> rfl
theorem rgB_ok {a : TAttrs} (ha : smallA a) (h : rgB a = true) : attrOk a := by
  unfold rgB at h
  simp only [Bool.and_eq_true, Bool.or_eq_true, beq_iff_eq, decide_eq_true_eq, Bool.not_eq_true'] at h
  obtain ⟨_, _, _, _, h5, h6, h7, h8⟩ := h
  exact ⟨ha.1, fun e => h5.resolve_left (by rw [e]; simp), fun e => h6.resolve_left (by rw [e]; simp), h7, risB_rises h8⟩
theorem attrOk.small {a : TAttrs} (h : attrOk a) : smallA a := ⟨h.path, by have := h.len; omega⟩
theorem canon_F {a : TAttrs} (h : attrOk a) : attr_Canon.F (a, ()) = some (a, ()) := by
  obtain ⟨o, p, n, hm, m, hp, pf, at_, cs⟩ := a
  obtain ⟨h1, h2, h3, h4, h5⟩ := h
  have g4 : cs.length ≤ 32 := h4
  have g2 : hm = false → m = 0 := h2
  have g3 : hp = false → pf = 0 := h3
  show attr_Canon.b aspath_Copy.F slices_Sorted_uint32.F slices_Compact_uint32_uint32.F (o, p, n, hm, m, hp, pf, at_, cs) = _
  unfold attr_Canon.b
  simp only []
  rw [copy_F p h1, sorted_F (l := cs) (by omega) h5]
  simp only [Option.bind_some]
  rw [compact_F (l := cs) (by omega) h5]
  simp only [Option.bind_some]
  cases hm with
  | true =>
    cases hp with
    | true => rfl
    | false => rw [g3 rfl]; rfl
  | false =>
    cases hp with
    | true => rw [g2 rfl]; rfl
    | false => rw [g2 rfl, g3 rfl]; rfl
def putS : List Int → Int → List Int
  | [], n => [n]
  | x :: r, n => bif decide (x < n) then x :: putS r n else bif x == n then x :: r else n :: x :: r
theorem putS_cons (x : Int) (r : List Int) (n : Int) : putS (x :: r) n = bif decide (x < n) then x :: putS r n else bif x == n then x :: r else n :: x :: r := rfl
theorem put_F (l : List Int) (n : Int) (hl : l.length < 1000000) : Ref7_Put.F (some l, n, ()) = some ((putS l n, ()), (none, n, ())) := by
  show iterN (fun k0 s => Ref7_Put.b0 l n k0 s) FU 0 = _
  refine (iterN_eq (F := fun s : Int => some ((l.take s.toNat ++ putS (l.drop s.toNat) n, ()), (none, n, ()))) (fun s => ∃ i : Nat, i ≤ l.length ∧ s = (i : Int)) (fun s => l.length - s.toNat) ?_ FU _ ⟨0, Nat.zero_le _, rfl⟩ (FU_lt (by simp; omega))).trans (by simp)
  rintro s k ⟨i, hi, rfl⟩ hk
  unfold Ref7_Put.b0
  simp only [Int.toNat_natCast]
  have hle : decide ((i : Int) ≤ ((l.length : Nat) : Int)) = true := decide_eq_true (by omega)
  have hself : decide (((l.length : Nat) : Int) ≤ ((l.length : Nat) : Int)) = true := decide_eq_true (by omega)
  have htl : (l.take i).length = i := by rw [List.length_take]; omega
  have hmx1 : decide (((0 : Nat) + (List.take (i - 0) (List.drop 0 l)).length) * 4 ≤ maxBytes) = true := maxB (by rw [List.drop_zero, Nat.sub_zero, htl]; omega) (by omega)
  have hmx2 : decide ((([] ++ List.take (i - 0) (List.drop 0 l)).length + 1) * 4 ≤ maxBytes) = true := maxB (by rw [List.drop_zero, Nat.sub_zero, List.nil_append, htl]; omega) (by omega)
  have hrest : List.take (l.length - i) (List.drop i l) = l.drop i := List.take_of_length_le (by rw [List.length_drop]; omega)
  have hmx3 : decide ((([] ++ List.take (i - 0) (List.drop 0 l) ++ [n]).length + (List.take (l.length - i) (List.drop i l)).length) * 4 ≤ maxBytes) = true := maxB (by rw [hrest, List.drop_zero, Nat.sub_zero, List.nil_append, List.length_append, htl, List.length_drop]; simp; omega) (by omega)
  by_cases h : i < l.length
  · simp only [ltT h, ge0, Bool.and_self, cond_true, hle, hself, hmx1, hmx2, hmx3]
    rw [wrap_succ h (by omega)]
    have hk1 := hk ((i + 1 : Nat) : Int) ⟨i + 1, h, rfl⟩ (by simp only [Int.toNat_natCast]; omega)
    rw [Int.toNat_natCast] at hk1
    rw [hk1, hrest, drop_getD h 0, putS_cons]
    cases decide (l.getD i 0 < n) with
    | true =>
      simp only [cond_true]
      have e : l.take (i + 1) = l.take i ++ [l.getD i 0] := by
        rw [List.take_add_one, List.getD_eq_getElem?_getD, List.getElem?_eq_getElem h]
        rfl
      rw [e]
      simp
    | false =>
      simp only [cond_false]
      cases (l.getD i 0 == n) with
      | true =>
        simp only [cond_true]
        rw [← drop_getD h 0, List.take_append_drop]
      | false =>
        simp only [cond_false, List.drop_zero, Nat.sub_zero, List.nil_append]
        rw [List.append_assoc]
        rfl
  · have hil : i = l.length := by omega
    simp only [ltF h, ge0, cond_false, Bool.and_self, cond_true, hle, hself, hmx1, hmx2, hmx3]
    rw [hrest, drop_all h]
    simp only [putS, List.drop_zero, Nat.sub_zero, List.nil_append, List.append_nil]
theorem putS_end : ∀ {l : List Int} {n : Int}, (∀ x ∈ l, x < n) → putS l n = l ++ [n]
  | [], n, _ => rfl
  | x :: r, n, h => by
    rw [putS_cons, decide_eq_true (h x List.mem_cons_self), putS_end fun y hy => h y (List.mem_cons_of_mem _ hy)]
    rfl
theorem canon7_F {a : TAttrs} (h : attrOk a) : Ref7_Canon.F (a, ()) = some (a, ()) := by
  obtain ⟨o, p, n, hm, m, hp, pf, at_, cs⟩ := a
  obtain ⟨h1, h2, h3, h4, h5⟩ := h
  have g4 : cs.length ≤ 32 := h4
  have g2 : hm = false → m = 0 := h2
  have g3 : hp = false → pf = 0 := h3
  have h5 : Rises cs := h5
  have hloop : ∀ (m' pf' : Int), Ref7_Canon.l0 Ref6_Copy.F Ref7_Put.F FU (o, p, n, hm, m, hp, pf, at_, cs) FU (0, o, n, hm, m', hp, pf', at_, cs, p, 0, 0, false, 0, false, 0, false, []) = some ((o, p, n, hm, m', hp, pf', at_, cs), ()) := by
    intro m' pf'
    show iterN (fun k0 s => Ref7_Canon.b0 Ref6_Copy.F Ref7_Put.F (o, p, n, hm, m, hp, pf, at_, cs) k0 s) FU (0, o, n, hm, m', hp, pf', at_, cs, p, 0, 0, false, 0, false, 0, false, []) = _
    refine iterN_eq (F := fun _ => some ((o, p, n, hm, m', hp, pf', at_, cs), ())) (fun s => ∃ i : Nat, i ≤ cs.length ∧ s = ((i : Int), o, n, hm, m', hp, pf', at_, cs, p, 0, 0, false, 0, false, 0, false, cs.take i)) (fun s => cs.length - s.1.toNat) ?_ FU _ ⟨0, Nat.zero_le _, rfl⟩ (FU_lt (by simp; omega))
    rintro s k ⟨i, hi, rfl⟩ hk
    unfold Ref7_Canon.b0
    simp only [Int.toNat_natCast]
    by_cases hlt : i < cs.length
    · simp only [ltT hlt, ge0, Bool.and_self, cond_true]
      rw [put_F _ _ (by rw [List.length_take]; omega)]
      simp only [Option.bind_some]
      rw [putS_end (fun x hx => by
        obtain ⟨j, hj, rfl⟩ := List.getElem_of_mem hx
        rw [List.length_take] at hj
        have := rises_lt h5 i j (by omega) hlt
        rw [List.getElem_take]
        rw [List.getD_eq_getElem?_getD, List.getElem?_eq_getElem (show j < cs.length by omega)] at this
        exact this), wrap_succ hlt (by omega)]
      have e : cs.take i ++ [cs.getD i 0] = cs.take (i + 1) := by
        rw [List.take_add_one, List.getD_eq_getElem?_getD, List.getElem?_eq_getElem hlt]
        rfl
      rw [e]
      exact hk _ ⟨i + 1, hlt, rfl⟩ (by simp only [Int.toNat_natCast]; omega)
    · simp only [ltF hlt, cond_false]
      rw [List.take_of_length_le (by omega)]
  show Ref7_Canon.b Ref6_Copy.F Ref7_Put.F (o, p, n, hm, m, hp, pf, at_, cs) (fun t => Ref7_Canon.l0 Ref6_Copy.F Ref7_Put.F FU (o, p, n, hm, m, hp, pf, at_, cs) FU t) = _
  unfold Ref7_Canon.b
  simp only []
  rw [copy6_F p h1]
  simp only [Option.bind_some]
  rw [hloop, hloop, hloop, hloop]
  cases hm with
  | true =>
    cases hp with
    | true => rfl
    | false => rw [g3 rfl]; rfl
  | false =>
    cases hp with
    | true => rw [g2 rfl]; rfl
    | false => rw [g2 rfl, g3 rfl]; rfl
end BE
end
section
set_option linter.unusedVariables false
set_option linter.unusedSimpArgs false
namespace BE
open Go Go.Ev
theorem someB {b c : Bool} (h : b = true ↔ c = true) : (some (b, ()) : Option (Bool × Unit)) = some (c, ()) := by
  cases b <;> cases c <;> simp_all
theorem truth_F (b : Bool) : attr_truth.F (b, ()) = some (bif b then 1 else 0, ()) := by cases b <;> rfl
theorem truth_zero (b c : Bool) : wI ((bif b then 1 else 0) - (bif c then 1 else 0)) = 0 ↔ b = c := by cases b <;> cases c <;> decide
noncomputable def eqA (a b : TAttrs) : Bool := @decide (a = b) (Classical.propDecidable _)
theorem eqA_iff {a b : TAttrs} : eqA a b = true ↔ a = b := @decide_eq_true_iff _ (Classical.propDecidable _)
theorem cmp7_F {a b : TAttrs} (ha : attrOk a) (hb : attrOk b) : ∃ r, attr_Cmp.F (a, b, ()) = some (r, ()) ∧ (r = 0 ↔ a = b) := by
  have h1 := ha.len
  have h2 := hb.len
  have e1 := canon_F ha
  have e2 := canon_F hb
  have e3 := path_F a.2.1 b.2.1 ha.path hb.path
  have e4 := compare_F a.2.2.2.2.2.2.2.2 b.2.2.2.2.2.2.2.2 (by omega) (by omega)
  show ∃ r, attr_Cmp.b attr_Canon.F cmp_Compare_int.F aspath_Cmp.F cmp_Compare_uint32.F attr_truth.F slices_Compare_uint32_uint32.F cmp_Or_int.F a b = some (r, ()) ∧ (r = 0 ↔ a = b)
  obtain ⟨o, p, n, hm, m, hp, pf, at_, cs⟩ := a
  obtain ⟨o', p', n', hm', m', hp', pf', at', cs'⟩ := b
  unfold attr_Cmp.b
  simp only [] at *
  rw [e1, e2]
  simp only [Option.bind_some]
  rw [(cmp_F _ _).1, e3, (cmp_F _ _).2, truth_F, truth_F, (cmp_F _ _).2, truth_F, truth_F, (cmp_F _ _).2, truth_F, truth_F, e4]
  simp only [Option.bind_some]
  rw [or_F _ (by simp)]
  refine ⟨_, rfl, ?_⟩
  rw [orI_zero]
  simp only [List.mem_cons, List.not_mem_nil, or_false, forall_eq_or_imp, forall_eq, cmpI_zero, truth_zero]
  rw [cmpL_zero (fun x _ y _ => cmpS_zero x y), cmpL_zero (fun x _ y _ => cmpI_zero x y)]
  simp only [Prod.mk.injEq]
theorem same_F {a b : TAttrs} (ha : attrOk a) (hb : attrOk b) : attr_Same.F (a, b, ()) = some (eqA a b, ()) := by
  obtain ⟨r, h1, h2⟩ := cmp7_F ha hb
  show attr_Same.b attr_Cmp.F a b = _
  unfold attr_Same.b
  rw [h1]
  exact someB (by rw [beq_iff_eq, eqA_iff]; exact h2)
def ordC : List Int → List Int → Int
  | [], [] => 0
  | [], _ :: _ => -1
  | _ :: _, [] => 1
  | x :: a, y :: b => bif x != y then sdI (decide (x < y)) else ordC a b
theorem ordC_zero : ∀ {a b : List Int}, ordC a b = 0 ↔ a = b
  | [], [] => by simp [ordC]
  | [], _ :: _ => by simp [ordC]
  | _ :: _, [] => by simp [ordC]
  | x :: a, y :: b => by
    have ih := ordC_zero (a := a) (b := b)
    unfold ordC
    by_cases h : x = y
    · subst h
      simpa using ih
    · rw [show (x != y) = true by simpa using h]
      simp only [cond_true, List.cons.injEq]
      constructor
      · intro e; exact absurd e (sdI_ne _)
      · rintro ⟨e, _⟩
        exact absurd e h
theorem ordC_cons (x y : Int) (a b : List Int) : ordC (x :: a) (y :: b) = bif x != y then sdI (decide (x < y)) else ordC a b := rfl
theorem order7_loop (o p n hm m hp pf at_ cs o' p' n' hm' m' hp' pf' at' cs') (A B : TAttrs) (h1 : List.length (α := Int) cs ≤ 32) (h2 : List.length (α := Int) cs' ≤ 32) : Ref7_Order.l0 Ref7_Canon.F Ref7_side.F Ref6_Order.F FU A B FU (0, o, p, n, hm, m, hp, pf, at_, cs, o', p', n', hm', m', hp', pf', at', cs') = some (ordC cs cs', ()) := by
  show iterN (fun k0 s => Ref7_Order.b0 Ref7_Canon.F Ref7_side.F Ref6_Order.F A B k0 s) FU (0, o, p, n, hm, m, hp, pf, at_, cs, o', p', n', hm', m', hp', pf', at', cs') = _
  refine (iterN_eq (F := fun s => some (ordC (cs.drop s.1.toNat) (cs'.drop s.1.toNat), ())) (fun s => ∃ i : Nat, i ≤ cs.length ∧ i ≤ cs'.length ∧ s = ((i : Int), o, p, n, hm, m, hp, pf, at_, cs, o', p', n', hm', m', hp', pf', at', cs')) (fun s => cs.length - s.1.toNat) ?_ FU _ ⟨0, Nat.zero_le _, Nat.zero_le _, rfl⟩ (FU_lt (by simp; omega))).trans (by simp)
  rintro s k ⟨i, hi, hi2, rfl⟩ hk
  unfold Ref7_Order.b0
  obtain ⟨e1, e2⟩ := lens hi hi2
  simp only [Int.toNat_natCast]
  by_cases h : i < cs.length
  · by_cases h2 : i < cs'.length
    · simp only [ltT h, ltT h2, ge0, Bool.and_self, cond_true]
      rw [drop_getD h 0, drop_getD h2 0, ordC_cons, side7, wrap_succ h (by omega)]
      cases (cs.getD i 0 != cs'.getD i 0) with
      | true => rfl
      | false =>
        simp only [cond_false]
        have := hk _ ⟨i + 1, h, h2, rfl⟩ (by simp only [Int.toNat_natCast]; omega)
        simp only [Int.toNat_natCast] at this
        exact this
    · simp only [ltT h, ltF h2, cond_true, cond_false]
      rw [e1, e2, drop_getD h 0, drop_all h2, show (((cs.getD i 0 :: cs.drop (i + 1)).length : Int) != ((([] : List Int).length : Nat) : Int)) = true from bne_iff_ne.2 (by simp only [List.length_cons, List.length_nil]; omega), show decide (((cs.getD i 0 :: cs.drop (i + 1)).length : Int) < ((([] : List Int).length : Nat) : Int)) = false from decide_eq_false (by simp only [List.length_cons, List.length_nil]; omega), side7]
      rfl
  · simp only [ltF h, cond_false]
    rw [e1, e2, drop_all h]
    by_cases h2 : i < cs'.length
    · rw [drop_getD h2 0, show (((([] : List Int).length : Nat) : Int) != ((cs'.getD i 0 :: cs'.drop (i + 1)).length : Int)) = true from bne_iff_ne.2 (by simp only [List.length_cons, List.length_nil]; omega), show decide (((([] : List Int).length : Nat) : Int) < ((cs'.getD i 0 :: cs'.drop (i + 1)).length : Int)) = true from decide_eq_true (by simp only [List.length_cons, List.length_nil]; omega), side7]
      rfl
    · rw [drop_all h2]
      simp [ordC]
theorem order7_b {c0 : Z31} {c1 : Bool × Unit → Option (Int × Unit)} {c2 : Z32} {i0 : Z34 → Option (Int × Unit)} (side7 : ∀ b, c1 (b, ()) = some (sdI b, ())) {o : Int} {p : List TSeg} {n : Int} {hm : Bool} {m : Int} {hp : Bool} {pf : Int} {at_ : Bool} {cs : List Int} {o' : Int} {p' : List TSeg} {n' : Int} {hm' : Bool} {m' : Int} {hp' : Bool} {pf' : Int} {at' : Bool} {cs' : List Int}
    (e1 : c0 ((o, p, n, hm, m, hp, pf, at_, cs), ()) = some ((o, p, n, hm, m, hp, pf, at_, cs), ())) (e2 : c0 ((o', p', n', hm', m', hp', pf', at', cs'), ()) = some ((o', p', n', hm', m', hp', pf', at', cs'), ())) (e3 : c2 (p, p', ()) = some (ordP p p', ()))
    (e4 : i0 (0, o, p, n, hm, m, hp, pf, at_, cs, o', p', n', hm', m', hp', pf', at', cs') = some (ordC cs cs', ())) : ∃ r, Ref7_Order.b c0 c1 c2 (o, p, n, hm, m, hp, pf, at_, cs) (o', p', n', hm', m', hp', pf', at', cs') i0 = some (r, ()) ∧ (r = 0 ↔ (o, p, n, hm, m, hp, pf, at_, cs) = (o', p', n', hm', m', hp', pf', at', cs')) := by
  unfold Ref7_Order.b
  rw [e1, e2]
  simp only [Option.bind_some]
  rw [e3, e4]
  simp only [side7, Option.bind_some, Prod.mk.injEq]
  by_cases c1 : o = o'
  · subst c1
    simp only [bne_self_eq_false, cond_false, true_and]
    by_cases c2 : ordP p p' = 0
    · rw [c2]
      simp only [bne_self_eq_false, cond_false, ordP_zero.1 c2, true_and]
      by_cases c3 : n = n'
      · subst c3
        simp only [bne_self_eq_false, cond_false, true_and]
        by_cases c4 : hm = hm'
        · subst c4
          simp only [beq_self_eq_true, Bool.not_true, cond_false, true_and]
          by_cases c5 : m = m'
          · subst c5
            simp only [bne_self_eq_false, cond_false, true_and]
            by_cases c6 : hp = hp'
            · subst c6
              simp only [beq_self_eq_true, Bool.not_true, cond_false, true_and]
              by_cases c7 : pf = pf'
              · subst c7
                simp only [bne_self_eq_false, cond_false, true_and]
                by_cases c8 : at_ = at'
                · subst c8
                  simp only [beq_self_eq_true, Bool.not_true, cond_false, true_and]
                  exact ⟨_, rfl, ordC_zero⟩
                · rw [show (at_ == at') = false from beq_eq_false_iff_ne.2 c8]
                  exact ⟨_, rfl, fun e => absurd e (sdI_ne _), fun e => absurd e.1 c8⟩
              · rw [show (pf != pf') = true from bne_iff_ne.2 c7]
                exact ⟨_, rfl, fun e => absurd e (sdI_ne _), fun e => absurd e.1 c7⟩
            · rw [show (hp == hp') = false from beq_eq_false_iff_ne.2 c6]
              exact ⟨_, rfl, fun e => absurd e (sdI_ne _), fun e => absurd e.1 c6⟩
          · rw [show (m != m') = true from bne_iff_ne.2 c5]
            exact ⟨_, rfl, fun e => absurd e (sdI_ne _), fun e => absurd e.1 c5⟩
        · rw [show (hm == hm') = false from beq_eq_false_iff_ne.2 c4]
          exact ⟨_, rfl, fun e => absurd e (sdI_ne _), fun e => absurd e.1 c4⟩
      · rw [show (n != n') = true from bne_iff_ne.2 c3]
        exact ⟨_, rfl, fun e => absurd e (sdI_ne _), fun e => absurd e.1 c3⟩
    · rw [show (ordP p p' != 0) = true from bne_iff_ne.2 c2]
      exact ⟨_, rfl, fun e => absurd e c2, fun e => absurd (ordP_zero.2 e.1) c2⟩
  · rw [show (o != o') = true from bne_iff_ne.2 c1]
    exact ⟨_, rfl, fun e => absurd e (sdI_ne _), fun e => absurd e.1 c1⟩
theorem order7_F {a b : TAttrs} (ha : attrOk a) (hb : attrOk b) : ∃ r, Ref7_Order.F (a, b, ()) = some (r, ()) ∧ (r = 0 ↔ a = b) :=
  order7_b side7 (canon7_F ha) (canon7_F hb) (order6_F a.2.1 b.2.1 ha.path hb.path) (order7_loop _ _ _ _ _ _ _ _ _ _ _ _ _ _ _ _ _ _ _ _ ha.len hb.len)
theorem same7_F {a b : TAttrs} (ha : attrOk a) (hb : attrOk b) : Ref7_Same.F (a, b, ()) = some (eqA a b, ()) := by
  obtain ⟨r, h1, h2⟩ := order7_F ha hb
  show Ref7_Same.b Ref7_Order.F a b = _
  unfold Ref7_Same.b
  rw [h1]
  exact someB (by rw [beq_iff_eq, eqA_iff]; exact h2)
end BE
end
section
set_option linter.unusedVariables false
set_option linter.unusedSimpArgs false
namespace BE
open Go Go.Ev
theorem iterN_ex {σ R : Type} {B : (σ → Option R) → σ → Option R} {Q : R → Prop} (Inv : σ → Prop) (m : σ → Nat)
    (h : ∀ s k, Inv s → (∀ s', Inv s' → m s' < m s → ∃ r, k s' = some r ∧ Q r) → ∃ r, B k s = some r ∧ Q r) : ∀ n s, Inv s → m s < n → ∃ r, iterN B n s = some r ∧ Q r
  | 0, s, _, hn => absurd hn (Nat.not_lt_zero _)
  | n + 1, s, hi, hn => h s (iterN B n) hi fun s' hi' hm => iterN_ex Inv m h n s' hi' (by omega)
theorem within_ok (n lo hi : Int) (h0 : 0 ≤ lo) (h1 : lo ≤ hi) (h2 : hi ≤ 1000000) : ∃ w : Int, Book_Within.F (n, lo, hi, ()) = some (w, ()) ∧ lo ≤ w ∧ w ≤ hi := by
  have e1 : wI (hi - lo) = hi - lo := wrap_id (by omega) (by omega)
  have e2 : wI (hi - lo + 1) = hi - lo + 1 := wrap_id (by omega) (by omega)
  obtain ⟨t, ht⟩ : ∃ t, t = Int.tmod n (hi - lo + 1) := ⟨_, rfl⟩
  have b1 : t < hi - lo + 1 := by rw [ht]; exact Int.tmod_lt_of_pos _ (by omega)
  have b2 : -(hi - lo + 1) < t := by rw [ht]; exact Int.lt_tmod_of_pos _ (by omega)
  show ∃ w : Int, Book_Within.b n lo hi = some (w, ()) ∧ lo ≤ w ∧ w ≤ hi
  unfold Book_Within.b
  rw [e1, e2, ← ht]
  rw [show (decide (hi - lo + 1 = 0)) = false from decide_eq_false (by omega)]
  simp only [Bool.not_false, cond_true]
  by_cases hneg : t < 0
  · rw [decide_eq_true hneg, cond_true, wrap_id (x := t + hi) (by omega) (by omega), wrap_id (x := t + hi - lo) (by omega) (by omega), wrap_id (x := t + hi - lo + 1) (by omega) (by omega), wrap_id (by omega) (by omega)]
    exact ⟨_, rfl, by omega, by omega⟩
  · rw [decide_eq_false hneg, cond_false, wrap_id (by omega) (by omega)]
    exact ⟨_, rfl, by omega, by omega⟩
theorem u32_range (x : Int) : 0 ≤ IntKind.u32.wrap x ∧ IntKind.u32.wrap x < 4294967296 := by
  show 0 ≤ x % (2 ^ 32 : Nat) ∧ x % (2 ^ 32 : Nat) < 4294967296
  omega
theorem kprefix_ok (a n : Int) : ∃ p, Keep_Prefix.F (a, n, ()) = some (p, ()) ∧ prefOk p := by
  obtain ⟨w, hw, h0, h1⟩ := within_ok n 0 6 (by omega) (by omega) (by omega)
  show ∃ p, Keep_Prefix.b Book_Within.F Ref1_Of.F a n = some (p, ()) ∧ prefOk p
  unfold Keep_Prefix.b
  rw [hw]
  simp only [Option.bind_some]
  obtain ⟨q, hq⟩ : ∃ q : Nat, w = (q : Int) := Int.eq_ofNat_of_zero_le h0
  have hq6 : q ≤ 6 := by omega
  have hw8 : wI (8 + w) = ((8 + q : Nat) : Int) := by rw [wrap_id (by omega) (by omega)]; omega
  rw [hw8]
  obtain ⟨r1, r2⟩ := u32_range (↑(BitVec.ofInt IntKind.u32.bits (167772160 : Int) ||| BitVec.ofInt IntKind.u32.bits (IntKind.u32.wrap (Int.tmod a (64 : Int) * (2 : Int) ^ min (18 : Nat) IntKind.u32.bits))).toNat : Int)
  obtain ⟨p, hp, hok⟩ := of_eq (n := 8 + q) r1 r2 (by omega)
  rw [hp]
  exact ⟨p, rfl, hok⟩
theorem prefix_ok (x : TL22_Ask) : ∃ p, L22_prefix.F (x, ()) = some (p, ()) ∧ (x.2.2.2 = true → prefOk p) ∧ (x.2.2.2 = false → p = x.2.1) := by
  show ∃ p, L22_prefix.b Keep_Prefix.F x = some (p, ()) ∧ (x.2.2.2 = true → prefOk p) ∧ (x.2.2.2 = false → p = x.2.1)
  unfold L22_prefix.b
  cases x.2.2.2 with
  | true =>
    obtain ⟨p, hp, hok⟩ := kprefix_ok (IntKind.u32.wrap (Int.tmod x.2.1.1 (8 : Int) * (2 : Int) ^ min (3 : Nat) IntKind.u32.bits)) x.2.1.2
    rw [cond_true, hp]
    exact ⟨p, rfl, fun _ => hok, fun e => (by cases e)⟩
  | false => exact ⟨_, rfl, fun e => (by cases e), fun _ => rfl⟩
theorem mem_putS {x n : Int} : ∀ {l : List Int}, x ∈ putS l n → x = n ∨ x ∈ l
  | [], h => by simpa [putS] using h
  | y :: r, h => by
    rw [putS_cons] at h
    cases hc : decide (y < n) with
    | true =>
      rw [hc, cond_true, List.mem_cons] at h
      rcases h with rfl | h
      · exact .inr List.mem_cons_self
      · exact (mem_putS h).imp id (List.mem_cons_of_mem _)
    | false =>
      rw [hc, cond_false] at h
      cases hd : (y == n) with
      | true => rw [hd, cond_true] at h; exact .inr h
      | false => rw [hd, cond_false, List.mem_cons] at h; exact h
theorem putS_pair {n : Int} : ∀ {l : List Int}, l.Pairwise (· < ·) → (putS l n).Pairwise (· < ·)
  | [], _ => List.pairwise_singleton _ _
  | y :: r, h => by
    have h' := List.pairwise_cons.1 h
    rw [putS_cons]
    by_cases hc : y < n
    · rw [decide_eq_true hc, cond_true]
      refine List.pairwise_cons.2 ⟨fun z hz => ?_, putS_pair h'.2⟩
      rcases mem_putS hz with rfl | hz
      · exact hc
      · exact h'.1 z hz
    · rw [decide_eq_false hc, cond_false]
      by_cases hd : y = n
      · rw [show (y == n) = true from beq_iff_eq.2 hd]
        exact h
      · rw [show (y == n) = false from beq_eq_false_iff_ne.2 hd, cond_false]
        refine List.pairwise_cons.2 ⟨fun z hz => ?_, h⟩
        rcases List.mem_cons.1 hz with rfl | hz
        · omega
        · have := h'.1 z hz
          omega
theorem putS_len (n : Int) : ∀ l : List Int, (putS l n).length ≤ l.length + 1
  | [] => by simp [putS]
  | y :: r => by
    rw [putS_cons]
    have := putS_len n r
    cases decide (y < n) <;> cases (y == n) <;> simp <;> omega
theorem rises_of {l : List Int} (h : l.Pairwise (· < ·)) : Rises l := fun i hi => by
  have := (List.pairwise_iff_getElem.1 h) i (i + 1) (by omega) hi (by omega)
  rwa [List.getD_eq_getElem?_getD, List.getElem?_eq_getElem (show i < l.length by omega), List.getD_eq_getElem?_getD, List.getElem?_eq_getElem hi]
theorem tame_ok (a : TAttrs) (au : Int) : ∃ r, Keep_Tame.F (a, au, ()) = some (r, ()) ∧ attrOk r := by
  obtain ⟨o, p, n, hm, m, hp, pf, at_, cs⟩ := a
  obtain ⟨w, hw, _⟩ := within_ok o 0 2 (by omega) (by omega) (by omega)
  have hin : ∀ (x1 : Int) (x2 : List TSeg) (x3 : Int) (x4 : Bool) (x5 : Int) (x6 : Bool) (x7 : Int) (x8 : Bool) (x10 x11 : Int) (x12 : Bool) (x13 : Int) (x14 : Bool) (x15 : Int) (x16 : Bool) (x17 x18 : Int) (x19 : Bool) (x20 : Int) (x21 : Bool) (x22 : Int) (x23 : Bool) (P : List TSeg), smallP P → (x19 = false → x20 = 0) → (x21 = false → x22 = 0) →
      ∃ r : TAttrs × Unit, Keep_Tame.l1 Book_Within.F Keep_Next.F Ref7_Put.F FU (o, p, n, hm, m, hp, pf, at_, cs) au x1 x2 x3 x4 x5 x6 x7 x8 cs x10 x11 x12 x13 x14 x15 x16 x17 x18 x19 x20 x21 x22 x23 FU (0, P, []) = some r ∧ attrOk r.1 := by
    intro x1 x2 x3 x4 x5 x6 x7 x8 x10 x11 x12 x13 x14 x15 x16 x17 x18 x19 x20 x21 x22 x23 P hP h1 h2
    show ∃ r : TAttrs × Unit, iterN (fun k1 s => Keep_Tame.b1 Book_Within.F Keep_Next.F Ref7_Put.F (o, p, n, hm, m, hp, pf, at_, cs) au x1 x2 x3 x4 x5 x6 x7 x8 cs x10 x11 x12 x13 x14 x15 x16 x17 x18 x19 x20 x21 x22 x23 k1 s) FU (0, P, []) = some r ∧ attrOk r.1
    refine iterN_ex (fun s : Int × List TSeg × List Int => ∃ (i : Nat) (l : List Int), s = ((i : Int), P, l) ∧ l.length ≤ i ∧ i ≤ 2 ∧ l.Pairwise (· < ·)) (fun s => 2 - s.1.toNat) ?_ FU _ ⟨0, [], rfl, Nat.le_refl _, by omega, List.Pairwise.nil⟩ (FU_lt (by simp only []; omega))
    rintro s k ⟨i, l, rfl, hl, hi, hr⟩ hk
    have done : ∃ r : TAttrs × Unit, some ((x17, P, x18, x19, x20, x21, x22, x23, l), ()) = some r ∧ attrOk r.1 := ⟨_, rfl, hP, h1, h2, by show l.length ≤ 32; omega, rises_of hr⟩
    unfold Keep_Tame.b1
    simp only [Int.toNat_natCast]
    by_cases h : i < cs.length
    · by_cases h2 : i < 2
      · simp only [ltT h, ge0, Bool.and_self, cond_true, decide_eq_true (show (i : Int) < 2 by omega)]
        rw [put_F _ _ (by omega), put_F _ _ (by omega), wrap_succ h2 (by omega)]
        simp only [Option.bind_some]
        have key : ∀ n', ∃ r : TAttrs × Unit, k (((i + 1 : Nat) : Int), P, putS l n') = some r ∧ attrOk r.1 := fun n' => hk _ ⟨i + 1, _, rfl, Nat.le_trans (putS_len n' l) (by omega), h2, putS_pair hr⟩ (by simp only [Int.toNat_natCast]; omega)
        cases (Int.tmod (cs.getD i 0) 5 == 4) <;> exact key _
      · simp only [ltT h, cond_true, decide_eq_false (show ¬ (i : Int) < 2 by omega), cond_false]
        exact done
    · simp only [ltF h, cond_false]
      exact done
  have hout : ∀ (x18 : Int) (x20 x22 : Int), (hm = false → x20 = 0) → (hp = false → x22 = 0) →
      ∃ r : TAttrs × Unit, Keep_Tame.l0 Book_Within.F Keep_Next.F Ref7_Put.F FU (o, p, n, hm, m, hp, pf, at_, cs) au FU (0, o, p, n, hm, m, hp, pf, at_, cs, 0, 0, false, 0, false, 0, false, w, x18, hm, x20, hp, x22, false, 2, [au]) = some r ∧ attrOk r.1 := by
    intro x18 x20 x22 h1 h2
    show ∃ r : TAttrs × Unit, iterN (fun k0 s => Keep_Tame.b0 Book_Within.F Keep_Next.F Ref7_Put.F (o, p, n, hm, m, hp, pf, at_, cs) au (fun y1 y2 y3 y4 y5 y6 y7 y8 y9 y10 y11 y12 y13 y14 y15 y16 y17 y18 y19 y20 y21 y22 y23 t => Keep_Tame.l1 Book_Within.F Keep_Next.F Ref7_Put.F FU (o, p, n, hm, m, hp, pf, at_, cs) au y1 y2 y3 y4 y5 y6 y7 y8 y9 y10 y11 y12 y13 y14 y15 y16 y17 y18 y19 y20 y21 y22 y23 FU t) k0 s) FU (0, o, p, n, hm, m, hp, pf, at_, cs, 0, 0, false, 0, false, 0, false, w, x18, hm, x20, hp, x22, false, 2, [au]) = some r ∧ attrOk r.1
    refine iterN_ex (fun s => ∃ (i : Nat) (l : List Int), s = ((i : Int), o, p, n, hm, m, hp, pf, at_, cs, 0, 0, false, 0, false, 0, false, w, x18, hm, x20, hp, x22, false, 2, l) ∧ l.length ≤ i + 1 ∧ i ≤ 2) (fun s => 2 - s.1.toNat) ?_ FU _ ⟨0, [au], rfl, by simp, by omega⟩ (FU_lt (by simp only []; omega))
    rintro s k ⟨i, l, rfl, hl, hi⟩ hk
    have done := hin o p n hm m hp pf at_ 0 0 false 0 false 0 false w x18 hm x20 hp x22 false [(2, l)] ⟨by simp, fun s hs => by
      rcases List.mem_singleton.1 hs with rfl
      show l.length < 1000000000
      omega⟩ h1 h2
    unfold Keep_Tame.b0
    simp only [Int.toNat_natCast]
    by_cases h : i < p.length
    · by_cases h2 : i < 2
      · simp only [ltT h, ge0, Bool.and_self, cond_true, decide_eq_true (show (i : Int) < 2 by omega)]
        rw [maxB (by omega) (by omega), wrap_succ h2 (by omega)]
        exact hk _ ⟨i + 1, _, rfl, by simp only [List.length_append, List.length_cons, List.length_nil]; omega, h2⟩ (by simp only [Int.toNat_natCast]; omega)
      · simp only [ltT h, cond_true, decide_eq_false (show ¬ (i : Int) < 2 by omega), cond_false]
        exact done
    · simp only [ltF h, cond_false]
      exact done
  suffices ∃ r : TAttrs × Unit, Keep_Tame.b Book_Within.F Keep_Next.F Ref7_Put.F (o, p, n, hm, m, hp, pf, at_, cs) au (fun t => Keep_Tame.l0 Book_Within.F Keep_Next.F Ref7_Put.F FU (o, p, n, hm, m, hp, pf, at_, cs) au FU t) = some r ∧ attrOk r.1 by
    obtain ⟨⟨r, _⟩, h1, h2⟩ := this
    exact ⟨r, h1, h2⟩
  unfold Keep_Tame.b
  simp only []
  obtain ⟨nx, hnx⟩ : ∃ nx, Keep_Next.F (n, ()) = some (nx, ()) := ⟨_, rfl⟩
  rw [hw, hnx]
  simp only [Option.bind_some]
  cases hm with
  | true =>
    cases hp with
    | true => exact hout _ _ _ (fun e => by cases e) (fun e => by cases e)
    | false => exact hout _ _ _ (fun e => by cases e) (fun _ => rfl)
  | false =>
    cases hp with
    | true => exact hout _ _ _ (fun _ => rfl) (fun e => by cases e)
    | false => exact hout _ _ _ (fun _ => rfl) (fun _ => rfl)
end BE
end
section
set_option linter.unusedVariables false
set_option linter.unusedSimpArgs false
namespace BE
open Go Go.Ev
abbrev MP : Type := List (Nat × (TPrefix × TAttrs))
noncomputable def look (p : TPrefix) (l : MP) : Option TAttrs := mapGet (keyEq tyPrefix) p l
theorem keq (x y : TPrefix) : keyEq tyPrefix x y = true ↔ x = y := by
  have : keyEq tyPrefix x y = (decide (x.1 = y.1) && decide (x.2 = y.2)) := by
    show (eqDen tyPrefix x y).getD false = _
    rfl
  rw [this, Bool.and_eq_true, decide_eq_true_eq, decide_eq_true_eq]
  exact ⟨fun h => Prod.ext h.1 h.2, fun h => by rw [h]; exact ⟨rfl, rfl⟩⟩
theorem keq_self (x : TPrefix) : keyEq tyPrefix x x = true := (keq x x).2 rfl
theorem keq_ne {x y : TPrefix} (h : x ≠ y) : keyEq tyPrefix x y = false := by
  cases hc : keyEq tyPrefix x y with
  | false => rfl
  | true => exact absurd ((keq x y).1 hc) h
theorem look_cons (p : TPrefix) (e : Nat × (TPrefix × TAttrs)) (l : MP) : look p (e :: l) = bif keyEq tyPrefix p e.2.1 then some e.2.2 else look p l := rfl
theorem look_none {p : TPrefix} : ∀ {l : MP}, look p l = none ↔ ∀ e ∈ l, e.2.1 ≠ p
  | [] => by simp [look, mapGet]
  | e :: l => by
    rw [look_cons]
    by_cases h : p = e.2.1
    · rw [h, keq_self]
      simp
    · rw [keq_ne h, cond_false, look_none (l := l)]
      simp only [List.mem_cons, forall_eq_or_imp]
      exact ⟨fun h2 => ⟨fun e => h e.symm, h2⟩, fun h2 => h2.2⟩
theorem look_mem {p : TPrefix} {a : TAttrs} : ∀ {l : MP}, look p l = some a → ∃ e ∈ l, e.2.1 = p ∧ e.2.2 = a
  | [], h => by cases h
  | e :: l, h => by
    rw [look_cons] at h
    by_cases hp : p = e.2.1
    · rw [hp, keq_self] at h
      injection h with h
      exact ⟨e, List.mem_cons_self, hp.symm, h⟩
    · rw [keq_ne hp, cond_false] at h
      obtain ⟨e', h1, h2⟩ := look_mem h
      exact ⟨e', List.mem_cons_of_mem _ h1, h2⟩
theorem look_of {e : Nat × (TPrefix × TAttrs)} : ∀ {l : MP}, (l.map (·.2.1)).Nodup → e ∈ l → look e.2.1 l = some e.2.2
  | [], _, h => by cases h
  | x :: l, hn, h => by
    rw [List.map_cons, List.nodup_cons] at hn
    rw [look_cons]
    rcases List.mem_cons.1 h with rfl | h
    · rw [keq_self]
      rfl
    · have hne : e.2.1 ≠ x.2.1 := fun he => hn.1 (List.mem_map.2 ⟨e, h, he⟩)
      rw [keq_ne hne, cond_false]
      exact look_of hn.2 h
theorem set_look (p : TPrefix) (v : TAttrs) (q : TPrefix) : ∀ (l : MP), (look p l).isSome = true → look q (mapSet (keyEq tyPrefix) p v l) = if q = p then some v else look q l
  | [], h => by cases h
  | e :: l, h => by
    unfold mapSet
    rw [look_cons] at h
    by_cases hp : p = e.2.1
    · rw [hp, keq_self, cond_true, look_cons, look_cons]
      by_cases hq : q = e.2.1
      · rw [if_pos hq, hq, keq_self]
        rfl
      · rw [if_neg hq, keq_ne hq]
        rfl
    · rw [keq_ne hp, cond_false] at h
      rw [keq_ne hp, cond_false, look_cons, look_cons, set_look p v q l h]
      by_cases hq : q = e.2.1
      · rw [hq, keq_self]
        simp only [cond_true]
        rw [if_neg (show ¬ e.2.1 = p from fun h9 => hp h9.symm)]
      · rw [keq_ne hq]
        rfl
theorem look_app (q : TPrefix) (e : Nat × (TPrefix × TAttrs)) : ∀ (l : MP), look q (l ++ [e]) = match look q l with
    | some a => some a
    | none => bif keyEq tyPrefix q e.2.1 then some e.2.2 else none
  | [] => rfl
  | x :: l => by
    rw [List.cons_append, look_cons, look_cons, look_app q e l]
    cases keyEq tyPrefix q x.2.1 <;> rfl
theorem put_look (p : TPrefix) (v : TAttrs) (q : TPrefix) (l : MP) (c : Nat) : look q (mapPut (keyEq tyPrefix) p v l c) = if q = p then some v else look q l := by
  unfold mapPut
  cases hs : (mapGet (keyEq tyPrefix) p l).isSome with
  | true => exact set_look p v q l hs
  | false =>
    rw [cond_false, look_app]
    have hn : look p l = none := Option.not_isSome_iff_eq_none.1 (by show ¬ (mapGet (keyEq tyPrefix) p l).isSome = true; rw [hs]; simp)
    by_cases hq : q = p
    · rw [hq, hn, if_pos rfl, keq_self]
      rfl
    · rw [if_neg hq, keq_ne hq]
      cases look q l <;> rfl
theorem del_look (p q : TPrefix) : ∀ {l : MP}, (l.map (·.2.1)).Nodup → look q (mapDel (keyEq tyPrefix) p l) = if q = p then none else look q l
  | [], _ => by simp [mapDel, look, mapGet]
  | e :: l, hn => by
    rw [List.map_cons, List.nodup_cons] at hn
    unfold mapDel
    by_cases hp : p = e.2.1
    · rw [hp, keq_self, cond_true, look_cons]
      by_cases hq : q = e.2.1
      · rw [if_pos hq, hq]
        exact look_none.2 fun x hx he => hn.1 (List.mem_map.2 ⟨x, hx, he⟩)
      · rw [if_neg hq, keq_ne hq]
        rfl
    · rw [keq_ne hp, cond_false, look_cons, look_cons, del_look p q hn.2]
      by_cases hq : q = e.2.1
      · rw [hq, keq_self]
        simp only [cond_true]
        rw [if_neg (show ¬ e.2.1 = p from fun h9 => hp h9.symm)]
      · rw [keq_ne hq]
        rfl
structure WFm (B : Nat) (l : MP) (c : Nat) : Prop where
  born : ∀ e ∈ l, e.1 < c
  nb : (l.map (·.1)).Nodup
  nk : (l.map (·.2.1)).Nodup
  ok : ∀ e ∈ l, prefOk e.2.1 ∧ attrOk e.2.2
  len : l.length ≤ B
theorem set_keys (p : TPrefix) (v : TAttrs) : ∀ l : MP, (mapSet (keyEq tyPrefix) p v l).map (·.1) = l.map (·.1) ∧ (mapSet (keyEq tyPrefix) p v l).map (·.2.1) = l.map (·.2.1) ∧ (∀ e ∈ mapSet (keyEq tyPrefix) p v l, e ∈ l ∨ e.2 = (p, v))
  | [] => ⟨rfl, rfl, fun e h => .inl h⟩
  | e :: l => by
    obtain ⟨h1, h2, h3⟩ := set_keys p v l
    unfold mapSet
    by_cases hp : p = e.2.1
    · rw [hp, keq_self]
      refine ⟨rfl, rfl, fun x hx => ?_⟩
      rcases List.mem_cons.1 hx with rfl | hx
      · exact .inr rfl
      · exact .inl (List.mem_cons_of_mem _ hx)
    · rw [keq_ne hp]
      refine ⟨by simp [h1], by simp [h2], fun x hx => ?_⟩
      rcases List.mem_cons.1 hx with rfl | hx
      · exact .inl List.mem_cons_self
      · exact (h3 x hx).imp (List.mem_cons_of_mem _) id
theorem WFm.put {B : Nat} {l : MP} {c : Nat} (h : WFm B l c) {p : TPrefix} {v : TAttrs} (hp : prefOk p) (hv : attrOk v) : WFm (B + 1) (mapPut (keyEq tyPrefix) p v l c) (mapNext (keyEq tyPrefix) p l c) := by
  unfold mapPut mapNext
  cases hs : (mapGet (keyEq tyPrefix) p l).isSome with
  | true =>
    obtain ⟨h1, h2, h3⟩ := set_keys p v l
    simp only [cond_true]
    refine ⟨fun e he => ?_, by rw [h1]; exact h.nb, by rw [h2]; exact h.nk, fun e he => ?_, ?_⟩
    · have : e.1 ∈ (mapSet (keyEq tyPrefix) p v l).map (·.1) := List.mem_map.2 ⟨e, he, rfl⟩
      rw [h1] at this
      obtain ⟨x, hx, hxe⟩ := List.mem_map.1 this
      rw [← hxe]
      exact h.born x hx
    · rcases h3 e he with h' | h'
      · exact h.ok e h'
      · rw [h']
        exact ⟨hp, hv⟩
    · have : (mapSet (keyEq tyPrefix) p v l).length = l.length := by rw [← List.length_map (f := (·.1)), h1, List.length_map]
      have := h.len
      omega
  | false =>
    have hn : look p l = none := Option.not_isSome_iff_eq_none.1 (by show ¬ (mapGet (keyEq tyPrefix) p l).isSome = true; rw [hs]; simp)
    simp only [cond_false]
    refine ⟨fun e he => ?_, ?_, ?_, fun e he => ?_, ?_⟩
    · rcases List.mem_append.1 he with he | he
      · have := h.born e he; omega
      · rw [List.mem_singleton.1 he]
        show c < c + 1
        omega
    · rw [List.map_append]
      refine List.nodup_append.2 ⟨h.nb, by simp, fun a ha b hb => ?_⟩
      obtain ⟨x, hx, rfl⟩ := List.mem_map.1 ha
      have hb : b = c := by simpa using hb
      have := h.born x hx
      omega
    · rw [List.map_append]
      refine List.nodup_append.2 ⟨h.nk, by simp, fun a ha b hb => ?_⟩
      obtain ⟨x, hx, rfl⟩ := List.mem_map.1 ha
      have hb : b = p := by simpa using hb
      rw [hb]
      exact look_none.1 hn x hx
    · rcases List.mem_append.1 he with he | he
      · exact h.ok e he
      · rw [List.mem_singleton.1 he]
        exact ⟨hp, hv⟩
    · have := h.len
      simp
      omega
theorem del_sub (p : TPrefix) : ∀ l : MP, (mapDel (keyEq tyPrefix) p l).Sublist l
  | [] => List.Sublist.refl _
  | e :: l => by
    unfold mapDel
    cases keyEq tyPrefix p e.2.1 with
    | true => exact List.sublist_cons_self _ _
    | false => exact (del_sub p l).cons_cons _
theorem WFm.del {B : Nat} {l : MP} {c : Nat} (h : WFm B l c) (p : TPrefix) : WFm B (mapDel (keyEq tyPrefix) p l) c := by
  have hs := del_sub p l
  exact ⟨fun e he => h.born e (hs.subset he), h.nb.sublist (hs.map _), h.nk.sublist (hs.map _), fun e he => h.ok e (hs.subset he), Nat.le_trans hs.length_le h.len⟩
theorem WFm.mono {B B' : Nat} {l : MP} {c : Nat} (h : WFm B l c) (hB : B ≤ B') : WFm B' l c := ⟨h.born, h.nb, h.nk, h.ok, Nat.le_trans h.len hB⟩
theorem WFm.look_ok {B : Nat} {l : MP} {c : Nat} (h : WFm B l c) {p : TPrefix} {a : TAttrs} (hl : look p l = some a) : prefOk p ∧ attrOk a := by
  obtain ⟨e, he, rfl, rfl⟩ := look_mem hl
  exact h.ok e he
theorem next_ne (l : MP) (seen : List Nat) : nextOf l seen ≠ [] := by
  unfold nextOf
  split <;> simp
theorem next_none {l : MP} {seen : List Nat} (h : none ∈ nextOf l seen) : ∀ e ∈ l, e.1 ∈ seen := by
  unfold nextOf at h
  split at h
  · rename_i hf
    intro e he
    have := List.filter_eq_nil_iff.1 hf e he
    simpa using this
  · simp at h
theorem next_some {l : MP} {seen : List Nat} {e : Nat × (TPrefix × TAttrs)} (h : some e ∈ nextOf l seen) : e ∈ l ∧ e.1 ∉ seen := by
  unfold nextOf at h
  split at h
  · simp at h
  · rename_i a r hf
    have : e ∈ l.filter (fun e => !seen.contains e.1) := by
      rw [hf]
      simpa using h
    have := List.mem_filter.1 this
    exact ⟨this.1, by simpa using this.2⟩
theorem cur_eq {l : MP} (hn : (l.map (·.1)).Nodup) {e : Nat × (TPrefix × TAttrs)} (he : e ∈ l) (seen : List Nat) : curOf l (seen ++ [e.1]) = some e := by
  unfold curOf
  rw [List.getLast?_append]
  simp only [List.getLast?_singleton, Option.some_or]
  cases hf : l.find? (fun x => x.1 == e.1) with
  | none => exact absurd (List.find?_eq_none.1 hf e he) (by simp)
  | some x =>
    have h1 : x.1 = e.1 := by simpa using List.find?_some hf
    have h2 := List.mem_of_find?_eq_some hf
    obtain ⟨i, hi, hie⟩ := List.getElem_of_mem he
    obtain ⟨j, hj, hje⟩ := List.getElem_of_mem h2
    have h3 : (l.map (·.1))[i]? = (l.map (·.1))[j]? := by
      rw [List.getElem?_map, List.getElem?_map, List.getElem?_eq_getElem hi, List.getElem?_eq_getElem hj, hie, hje]
      simp [h1]
    have : i = j := (List.getElem?_inj (by simpa using hi) hn).1 h3
    subst this
    rw [← hie, hje]
theorem all_born {l : MP} {c : Nat} (h : ∀ e ∈ l, e.1 < c) : (l.all fun e : Nat × (tyPrefix.pair tyAttrs).den => e.1.blt c) = true :=
  List.all_eq_true.2 fun e he => Nat.ble_eq_true_of_le (h e he)
theorem take_out {l dn rs : MP} (hp : l.Perm (dn ++ rs)) {e : Nat × (TPrefix × TAttrs)} (he : e ∈ l) (hd : e.1 ∉ dn.map (·.1)) : ∃ rs', l.Perm ((dn ++ [e]) ++ rs') := by
  have hr : e ∈ rs := by
    rcases List.mem_append.1 (hp.mem_iff.1 he) with h | h
    · exact absurd (List.mem_map.2 ⟨e, h, rfl⟩) hd
    · exact h
  obtain ⟨r1, r2, rfl⟩ := List.append_of_mem hr
  exact ⟨r1 ++ r2, hp.trans (by rw [List.append_assoc]; exact List.Perm.append_left dn List.perm_middle)⟩
theorem all_out {l dn rs : MP} (hn : (l.map (·.1)).Nodup) (hp : l.Perm (dn ++ rs)) (h : ∀ e ∈ l, e.1 ∈ dn.map (·.1)) : l.Perm dn := by
  cases rs with
  | nil => rwa [List.append_nil] at hp
  | cons q rs =>
    have h4 := h q (hp.mem_iff.2 (List.mem_append.2 (.inr List.mem_cons_self)))
    have h5 := (hp.map (·.1)).nodup_iff.1 hn
    rw [List.map_append, List.map_cons] at h5
    exact absurd rfl ((List.nodup_append.1 h5).2.2 _ h4 _ List.mem_cons_self)
noncomputable def pendB (o : DOut) (p : TPrefix) : Bool := match look p o.1.1, look p o.2.1 with
  | some a, some b => !eqA a b
  | none, none => false
  | _, _ => true
theorem pendB_iff (o : DOut) (p : TPrefix) : pendB o p = true ↔ look p o.1.1 ≠ look p o.2.1 := by
  unfold pendB
  cases look p o.1.1 with
  | none => cases look p o.2.1 <;> simp
  | some a =>
    cases look p o.2.1 with
    | none => simp
    | some b =>
      simp only [ne_eq, Option.some.injEq, Bool.not_eq_true']
      constructor
      · intro h e
        rw [eqA_iff.2 e] at h
        cases h
      · intro h
        cases hc : eqA a b with
        | false => rfl
        | true => exact absurd (eqA_iff.1 hc) h
structure WFo (B : Nat) (o : DOut) : Prop where
  w : WFm B o.1.1 o.1.2
  t : WFm B o.2.1 o.2.2
theorem pend_F {B : Nat} {o : DOut} (h : WFo B o) (p : TPrefix) : adjout_Out_pending.F (o, p, ()) = some (pendB o p, ()) := by
  show adjout_Out_pending.b attr_Same.F o p = _
  unfold adjout_Out_pending.b pendB look
  cases h1 : mapGet (keyEq tyPrefix) p o.1.1 with
  | none => cases h2 : mapGet (keyEq tyPrefix) p o.2.1 <;> rfl
  | some a =>
    cases h2 : mapGet (keyEq tyPrefix) p o.2.1 with
    | none => rfl
    | some b =>
      simp only [Option.isSome_some, beq_self_eq_true, Bool.not_true, cond_false, cond_true, Option.getD_some]
      rw [same_F (h.w.look_ok h1).2 (h.t.look_ok h2).2]
      rfl
noncomputable def pend1 (o : DOut) (l : MP) : List TPrefix := (l.filter fun e => pendB o e.2.1).map (·.2.1)
noncomputable def pend2 (o : DOut) (l : MP) : List TPrefix := (l.filter fun e => (look e.2.1 o.1.1).isNone).map (·.2.1)
noncomputable def pendL (o : DOut) : List TPrefix := sortB prefLt (pend1 o o.1.1 ++ pend2 o o.2.1)
theorem sort_ok {xs : List TPrefix} (hx : ∀ x ∈ xs, prefOk x) (hl : xs.length < 1000000000) : slices_SortFunc_api_Prefix_api_Prefix.F (xs, (), ()) = some ((), (sortB prefLt xs, (), ())) := by
  have hlt : ∀ p q : TPrefix, prefOk p → prefOk q → Ev.ltT (e := tyPrefix) addr_Cmp.F p q = prefLt p q := fun p q hp hq => by
    obtain ⟨r, h1, h2⟩ := cmp_eq hp hq
    unfold Ev.ltT cmpT
    rw [h1]
    cases hc : prefLt p q with
    | true => exact decide_eq_true (h2.2 hc)
    | false => exact decide_eq_false fun h => by rw [h2.1 h] at hc; cases hc
  have hok : SortOk (e := tyPrefix) addr_Cmp.F xs := ⟨hl, fun x hx' y hy => by
    obtain ⟨r, h1, _⟩ := cmp_eq (hx x hx') (hx y hy)
    exact ⟨r, h1⟩, fun x hx' => by rw [hlt x x (hx x hx') (hx x hx')]; exact (prefLt_ord xs).irr x hx', fun x hx' y hy z hz h1 h2 => by
    rw [hlt _ _ (hx _ ‹_›) (hx _ ‹_›)] at *
    exact (prefLt_ord xs).tr x hx' y hy z hz h1 h2, fun x hx' y hy h1 h2 => by
    rw [hlt _ _ (hx _ ‹_›) (hx _ ‹_›)] at *
    exact (prefLt_ord xs).tot x hx' y hy h1 h2⟩
  show sortF (e := tyPrefix) addr_Cmp.F (xs, (), ()) = _
  unfold sortF
  rw [if_pos hok]
  have : sortB (Ev.ltT (e := tyPrefix) addr_Cmp.F) xs = sortB prefLt xs := by
    refine sortB_uniq (prefLt_ord _) (sortB_perm _ xs) ?_
    refine (sortB_sorted hok.ord).imp_of_mem fun {x y} hx' hy hxy => ?_
    rwa [hlt y x (hx y ((sortB_perm _ xs).mem_iff.1 hy)) (hx x ((sortB_perm _ xs).mem_iff.1 hx'))] at hxy
  show some ((), (sortB (Ev.ltT (e := tyPrefix) addr_Cmp.F) xs, (), ())) = _
  rw [this]
theorem sortB_perm_eq {xs ys : List TPrefix} (h : xs.Perm ys) : sortB prefLt xs = sortB prefLt ys :=
  sortB_uniq (prefLt_ord _) ((sortB_perm _ xs).trans h) (sortB_sorted (prefLt_ord xs))
end BE
end
section
set_option linter.unusedVariables false
set_option linter.unusedSimpArgs false
namespace BE
open Go Go.Ev
theorem filter_take {l dn rs : MP} {P : Nat × (TPrefix × TAttrs) → Bool} (e : Nat × (TPrefix × TAttrs)) : ((dn ++ [e]).filter P).map (·.2.1) = (dn.filter P).map (·.2.1) ++ (bif P e then [e.2.1] else []) := by
  rw [List.filter_append, List.map_append]
  cases h : P e <;> simp [h]
theorem Pending_f {B : Nat} (hB : B ≤ 1000) {o : DOut} (h : WFo B o) {c0 : Tadjout_Out × TPrefix × Unit → Option (Bool × Unit)} (hc : ∀ p, c0 (o, p, ()) = some (pendB o p, ())) {c1 : List TPrefix × Unit × Unit → Option (Unit × (List TPrefix × Unit × Unit))}
    (hs : ∀ xs : List TPrefix, (∀ x ∈ xs, prefOk x) → xs.length < 1000000000 → c1 (xs, (), ()) = some ((), (sortB prefLt xs, (), ()))) : adjout_Out_Pending.f c0 c1 FU o = some (pendL o, ()) := by
  obtain ⟨⟨w, wc⟩, t, tc⟩ := o
  have hw : WFm B w wc := h.w
  have ht : WFm B t tc := h.t
  have hwl := hw.len
  have htl := ht.len
  have hin : ∀ out : List TPrefix, out.Perm (pend1 ((w, wc), t, tc) w) → adjout_Out_Pending.l1 c0 c1 FU ((w, wc), t, tc) FU (out, t, tc, []) = some (pendL ((w, wc), t, tc), ()) := by
    intro out0 hout0
    show iterN (fun k1 s => adjout_Out_Pending.b1 c0 c1 ((w, wc), t, tc) k1 s) FU (out0, t, tc, []) = _
    refine iterN_eq (F := fun _ => some (pendL ((w, wc), t, tc), ())) (fun s : List TPrefix × MP × Nat × List Nat => ∃ (dn rs : MP) (out : List TPrefix), s = (out, t, tc, dn.map (·.1)) ∧ t.Perm (dn ++ rs) ∧ out.Perm (pend1 ((w, wc), t, tc) w ++ pend2 ((w, wc), t, tc) dn)) (fun s => t.length - s.2.2.2.length) ?_ FU _ ⟨[], t, out0, rfl, List.Perm.refl _, by simpa [pend2] using hout0⟩ (FU_lt (by simp only []; omega))
    rintro s k ⟨dn, rs, out, rfl, hp, hout⟩ hk
    have hpl := hp.length_eq
    rw [List.length_append] at hpl
    have houtl : out.length ≤ 2000 := by
      rw [hout.length_eq, List.length_append]
      have h1 : (pend1 ((w, wc), t, tc) w).length ≤ w.length := by unfold pend1; rw [List.length_map]; exact List.length_filter_le _ _
      have h2 : (pend2 ((w, wc), t, tc) dn).length ≤ dn.length := by unfold pend2; rw [List.length_map]; exact List.length_filter_le _ _
      omega
    unfold adjout_Out_Pending.b1
    simp only []
    rw [all_born ht.born, cond_true]
    refine amb_eq (next_ne _ _) fun y hy => ?_
    cases y with
    | none =>
      have hall := all_out ht.nb hp (next_none hy)
      have hfin : out.Perm (pend1 ((w, wc), t, tc) w ++ pend2 ((w, wc), t, tc) t) := hout.trans (List.Perm.append_left _ ((hall.symm.filter _).map _))
      simp only []
      rw [hs out (fun x hx => ?_) (by omega)]
      · simp only [Option.bind_some]
        unfold pendL
        rw [sortB_perm_eq hfin]
      · rcases List.mem_append.1 (hfin.mem_iff.1 hx) with hx | hx
        · obtain ⟨e, he, rfl⟩ := List.mem_map.1 hx
          exact (hw.ok e (List.mem_filter.1 he).1).1
        · obtain ⟨e, he, rfl⟩ := List.mem_map.1 hx
          exact (ht.ok e (List.mem_filter.1 he).1).1
    | some e =>
      obtain ⟨he, hns⟩ := next_some hy
      obtain ⟨rs', hp'⟩ := take_out hp he hns
      have hpl' := hp'.length_eq
      simp only [List.length_append, List.length_cons, List.length_nil] at hpl'
      simp only []
      rw [cur_eq ht.nb he]
      simp only [Option.isSome_some, cond_true, Option.map_some, Option.getD_some]
      rw [maxB (by omega) (by omega)]
      simp only [cond_true]
      have hdl : (dn.map (·.1)).length = dn.length := List.length_map _
      have hs1 : dn.map (·.1) ++ [e.1] = (dn ++ [e]).map (·.1) := by simp
      cases hc2 : (mapGet (keyEq tyPrefix) e.2.1 w).isSome with
      | false =>
        simp only [Bool.not_false, cond_true]
        refine hk _ ⟨dn ++ [e], rs', _, by rw [hs1], hp', ?_⟩ (by simp only [List.length_append, List.length_map, List.length_cons, List.length_nil]; omega)
        have hP : (look e.2.1 w).isNone = true := by
          unfold look
          rw [← Option.not_isSome, hc2]
          rfl
        have : pend2 ((w, wc), t, tc) (dn ++ [e]) = pend2 ((w, wc), t, tc) dn ++ [e.2.1] := by
          unfold pend2
          rw [filter_take (l := t) (rs := rs) e]
          rw [show (look e.2.1 ((w, wc), t, tc).fst.fst).isNone = true from hP]
          rfl
        rw [this, ← List.append_assoc]
        exact List.Perm.append_right _ hout
      | true =>
        simp only [Bool.not_true, cond_false]
        refine hk _ ⟨dn ++ [e], rs', _, by rw [hs1], hp', ?_⟩ (by simp only [List.length_append, List.length_map, List.length_cons, List.length_nil]; omega)
        have hP : (look e.2.1 w).isNone = false := by
          unfold look
          rw [← Option.not_isSome, hc2]
          rfl
        have : pend2 ((w, wc), t, tc) (dn ++ [e]) = pend2 ((w, wc), t, tc) dn := by
          unfold pend2
          rw [filter_take (l := t) (rs := rs) e]
          rw [show (look e.2.1 ((w, wc), t, tc).fst.fst).isNone = false from hP]
          simp
        rw [this]
        exact hout
  show iterN (fun k0 s => adjout_Out_Pending.b0 c0 c1 ((w, wc), t, tc) (fun t1 => adjout_Out_Pending.l1 c0 c1 FU ((w, wc), t, tc) FU t1) k0 s) FU ([], w, wc, []) = _
  refine iterN_eq (F := fun _ => some (pendL ((w, wc), t, tc), ())) (fun s : List TPrefix × MP × Nat × List Nat => ∃ (dn rs : MP) (out : List TPrefix), s = (out, w, wc, dn.map (·.1)) ∧ w.Perm (dn ++ rs) ∧ out.Perm (pend1 ((w, wc), t, tc) dn)) (fun s => w.length - s.2.2.2.length) ?_ FU _ ⟨[], w, [], rfl, List.Perm.refl _, List.Perm.refl _⟩ (FU_lt (by simp only []; omega))
  rintro s k ⟨dn, rs, out, rfl, hp, hout⟩ hk
  have hpl := hp.length_eq
  rw [List.length_append] at hpl
  have houtl : out.length ≤ 2000 := by
    rw [hout.length_eq]
    have h2 : (pend1 ((w, wc), t, tc) dn).length ≤ dn.length := by unfold pend1; rw [List.length_map]; exact List.length_filter_le _ _
    omega
  unfold adjout_Out_Pending.b0
  simp only []
  rw [all_born hw.born, cond_true]
  refine amb_eq (next_ne _ _) fun y hy => ?_
  cases y with
  | none =>
    have hall := all_out hw.nb hp (next_none hy)
    exact hin out (hout.trans ((hall.symm.filter _).map _))
  | some e =>
    obtain ⟨he, hns⟩ := next_some hy
    obtain ⟨rs', hp'⟩ := take_out hp he hns
    have hpl' := hp'.length_eq
    simp only [List.length_append, List.length_cons, List.length_nil] at hpl'
    simp only []
    rw [cur_eq hw.nb he]
    simp only [Option.isSome_some, cond_true, Option.map_some, Option.getD_some]
    rw [hc, maxB (by omega) (by omega)]
    simp only [cond_true, Option.bind_some]
    have hs1 : dn.map (·.1) ++ [e.1] = (dn ++ [e]).map (·.1) := by simp
    have hthis : pend1 ((w, wc), t, tc) (dn ++ [e]) = pend1 ((w, wc), t, tc) dn ++ (bif pendB ((w, wc), t, tc) e.2.1 then [e.2.1] else []) := filter_take (l := w) (rs := rs) e
    cases hc2 : pendB ((w, wc), t, tc) e.2.1 with
    | true =>
      rw [hc2] at hthis
      exact hk _ ⟨dn ++ [e], rs', _, by rw [hs1], hp', by rw [hthis]; exact List.Perm.append_right _ hout⟩ (by simp only [List.length_append, List.length_map, List.length_cons, List.length_nil]; omega)
    | false =>
      rw [hc2] at hthis
      exact hk _ ⟨dn ++ [e], rs', _, by rw [hs1], hp', by rw [hthis]; simpa using hout⟩ (by simp only [List.length_append, List.length_map, List.length_cons, List.length_nil]; omega)
theorem Pending_F {B : Nat} (hB : B ≤ 1000) {o : DOut} (h : WFo B o) : adjout_Out_Pending.F (o, ()) = some (pendL o, ()) := Pending_f hB h (fun p => pend_F h p) fun xs hx hl => sort_ok hx hl
end BE
end
section
set_option linter.unusedVariables false
set_option linter.unusedSimpArgs false
namespace BE
open Go Go.Ev
abbrev zA : TAttrs := (0, [], 0, false, 0, false, 0, false, [])
theorem nodup_le {α : Type} : ∀ {l m : List α}, l.Nodup → (∀ x ∈ l, x ∈ m) → l.length ≤ m.length
  | [], _, _, _ => Nat.zero_le _
  | x :: l, m, hn, hs => by
    rw [List.nodup_cons] at hn
    obtain ⟨m1, m2, rfl⟩ := List.append_of_mem (hs x List.mem_cons_self)
    have := nodup_le (l := l) (m := m1 ++ m2) hn.2 fun y hy => by
      have hne : y ≠ x := fun e => hn.1 (e ▸ hy)
      have := hs y (List.mem_cons_of_mem _ hy)
      rw [List.mem_append, List.mem_cons] at this
      rw [List.mem_append]
      rcases this with h | h | h
      · exact .inl h
      · exact absurd h hne
      · exact .inr h
    simp at this ⊢
    omega
theorem get_F {B : Nat} {l : MP} {c : Nat} (h : WFm B l c) (p : TPrefix) : adjout_get.F ((l, c), p, ()) = some (((look p l).getD zA, (look p l).isSome, ()), ((l, c), p, ())) := by
  show adjout_get.b attr_Canon.F (l, c) p = _
  unfold adjout_get.b look
  cases h1 : mapGet (keyEq tyPrefix) p l with
  | none => rfl
  | some a =>
    simp only [Option.isSome_some, Bool.not_true, cond_false, Option.getD_some]
    rw [canon_F (h.look_ok h1).2]
    rfl
theorem Wanted_F {B : Nat} {o : DOut} (h : WFo B o) (p : TPrefix) : adjout_Out_Wanted.F (o, p, ()) = some (((look p o.1.1).getD zA, (look p o.1.1).isSome, ()), (o, p, ())) := by
  show adjout_Out_Wanted.b adjout_get.F o p = _
  unfold adjout_Out_Wanted.b
  rw [show adjout_get.F (o.1, p, ()) = _ from get_F h.w p]
  rfl
noncomputable def allL (o : DOut) : List TPrefix := sortB prefLt (o.1.1.map (·.2.1))
theorem All_F {B : Nat} (hB : B ≤ 1000) {o : DOut} (h : WFo B o) : adjout_Out_All.F (o, ()) = some (allL o, ()) := by
  show adjout_Out_All.b o = _
  unfold adjout_Out_All.b sortedMap
  have := h.w.len
  rw [if_pos (show MapFine (V := TAttrs) o.1.1 o.1.2 from ⟨h.w.born, h.w.nb, fun e he => (h.w.ok e he).1, by omega⟩)]
  rfl
theorem Want_F {o : DOut} {p : TPrefix} {a : TAttrs} (h0 : 0 ≤ p.1) (h1 : p.1 < 4294967296) (ha : smallA a) : adjout_Out_Want.F (o, p, a, ()) =
    bif rightB p && rgB a then some ((0, ()), (((mapPut (keyEq tyPrefix) p a o.1.1 o.1.2, mapNext (keyEq tyPrefix) p o.1.1 o.1.2), o.2), (p, (a, ())))) else some ((12, ()), (o, (p, (a, ())))) := by
  show adjout_Out_Want.b addr_Right.F attr_Right.F attr_Canon.F o p a = _
  unfold adjout_Out_Want.b
  rw [(right_eq h0 h1).1, aright_F a ha]
  simp only [Option.bind_some]
  cases h2 : rightB p with
  | false => rfl
  | true =>
    cases h3 : rgB a with
    | false => rfl
    | true =>
      simp only [Bool.not_true, cond_false, Bool.and_self, cond_true]
      rw [canon_F (rgB_ok ha h3)]
      rfl
theorem Lack_F (o : DOut) (p : TPrefix) : adjout_Out_Lack.F (o, p, ()) = some (((look p o.1.1).isSome, ()), (((mapDel (keyEq tyPrefix) p o.1.1, o.1.2), o.2), (p, ()))) := rfl
theorem sortB_strict {xs : List TPrefix} (hn : xs.Nodup) : (sortB prefLt xs).Pairwise fun a b => prefLt a b = true := by
  have h1 := sortB_sorted (prefLt_ord xs)
  have h2 : (sortB prefLt xs).Nodup := (sortB_perm _ xs).nodup_iff.2 hn
  have h3 : (sortB prefLt xs).Pairwise fun a b => prefLt b a = false ∧ a ≠ b := List.Pairwise.and h1 h2
  refine h3.imp fun {a b} hab => ?_
  cases hc : prefLt a b with
  | true => rfl
  | false => exact absurd ((prefLt_ord [a, b]).tot a (by simp) b (by simp) hc hab.1) hab.2
theorem pend_nodup {B : Nat} {o : DOut} (h : WFo B o) : (pend1 o o.1.1 ++ pend2 o o.2.1).Nodup := by
  refine List.nodup_append.2 ⟨?_, ?_, fun a ha b hb => ?_⟩
  · exact h.w.nk.sublist (List.Sublist.map _ List.filter_sublist)
  · exact h.t.nk.sublist (List.Sublist.map _ List.filter_sublist)
  · rintro rfl
    obtain ⟨e, he, rfl⟩ := List.mem_map.1 ha
    obtain ⟨e', he', h2⟩ := List.mem_map.1 hb
    have h3 := look_of h.w.nk (List.mem_filter.1 he).1
    have h4 := (List.mem_filter.1 he').2
    have h5 : (look e'.2.1 o.1.1).isNone = true := h4
    rw [h2, h3] at h5
    cases h5
theorem mem_pend {B : Nat} {o : DOut} (h : WFo B o) {p : TPrefix} : p ∈ pendL o ↔ look p o.1.1 ≠ look p o.2.1 := by
  unfold pendL
  rw [(sortB_perm _ _).mem_iff, List.mem_append]
  constructor
  · rintro (hp | hp)
    · obtain ⟨e, he, rfl⟩ := List.mem_map.1 hp
      exact (pendB_iff o _).1 (List.mem_filter.1 he).2
    · obtain ⟨e, he, rfl⟩ := List.mem_map.1 hp
      have h1 := look_of h.t.nk (List.mem_filter.1 he).1
      have h2 : (look e.2.1 o.1.1).isNone = true := (List.mem_filter.1 he).2
      rw [h1, Option.isNone_iff_eq_none.1 h2]
      simp
  · intro hne
    cases h1 : look p o.1.1 with
    | some a =>
      obtain ⟨e, he, rfl, rfl⟩ := look_mem h1
      exact .inl (List.mem_map.2 ⟨e, List.mem_filter.2 ⟨he, (pendB_iff o _).2 hne⟩, rfl⟩)
    | none =>
      cases h2 : look p o.2.1 with
      | none => rw [h1, h2] at hne; exact absurd rfl hne
      | some a =>
        obtain ⟨e, he, rfl, rfl⟩ := look_mem h2
        exact .inr (List.mem_map.2 ⟨e, List.mem_filter.2 ⟨he, by simp [h1]⟩, rfl⟩)
theorem pend_len {B : Nat} {o : DOut} (h : WFo B o) : (pendL o).length ≤ 2 * B := by
  unfold pendL
  have h1 := h.w.len
  have h2 := h.t.len
  have h3 : (pend1 o o.1.1).length ≤ o.1.1.length := by unfold pend1; rw [List.length_map]; exact List.length_filter_le _ _
  have h4 : (pend2 o o.2.1).length ≤ o.2.1.length := by unfold pend2; rw [List.length_map]; exact List.length_filter_le _ _
  rw [length_sortB, List.length_append]
  omega
theorem pend_ok {B : Nat} {o : DOut} (h : WFo B o) : ∀ p ∈ pendL o, prefOk p := fun p hp => by
  have hne := (mem_pend h).1 hp
  cases h1 : look p o.1.1 with
  | some a => exact (h.w.look_ok h1).1
  | none =>
    cases h2 : look p o.2.1 with
    | some a => exact (h.t.look_ok h2).1
    | none => rw [h1, h2] at hne; exact absurd rfl hne
theorem pend_sorted {B : Nat} {o : DOut} (h : WFo B o) : (pendL o).Pairwise fun a b => prefLt a b = true := sortB_strict (pend_nodup h)
theorem all_sorted {B : Nat} {o : DOut} (h : WFo B o) : (allL o).Pairwise fun a b => prefLt a b = true := sortB_strict h.w.nk
theorem mem_all {B : Nat} {o : DOut} (h : WFo B o) {p : TPrefix} : p ∈ allL o ↔ (look p o.1.1).isSome = true := by
  unfold allL
  rw [(sortB_perm _ _).mem_iff]
  constructor
  · intro hp
    obtain ⟨e, he, rfl⟩ := List.mem_map.1 hp
    rw [look_of h.w.nk he]
    rfl
  · intro hp
    obtain ⟨a, ha⟩ := Option.isSome_iff_exists.1 hp
    obtain ⟨e, he, rfl, _⟩ := look_mem ha
    exact List.mem_map.2 ⟨e, he, rfl⟩
theorem sorted_eq {a b : List TPrefix} (ha : a.Pairwise fun a b => prefLt a b = true) (hb : b.Pairwise fun a b => prefLt a b = true) (h : ∀ p, p ∈ a ↔ p ∈ b) : a = b := by
  have irr : ∀ x : TPrefix, prefLt x x = true → False := fun x hx => by rw [(prefLt_ord [x]).irr x (by simp)] at hx; cases hx
  have na : a.Nodup := List.Pairwise.imp (R := fun a b => prefLt a b = true) (fun {x y} (hxy : prefLt x y = true) => fun (e : x = y) => irr x (by rw [← e] at hxy; exact hxy)) ha
  have nb : b.Nodup := List.Pairwise.imp (R := fun a b => prefLt a b = true) (fun {x y} (hxy : prefLt x y = true) => fun (e : x = y) => irr x (by rw [← e] at hxy; exact hxy)) hb
  exact List.Perm.eq_of_pairwise (le := fun a b => prefLt a b = true) (fun x y _ _ h1 h2 => absurd ((prefLt_ord [x, y]).asym (by simp) (by simp) h1) (by rw [h2]; simp)) ha hb ((List.perm_ext_iff_of_nodup na nb).2 h)
noncomputable def chOf (o : DOut) (p : TPrefix) : Tadjout_Change := (p, (look p o.1.1).getD zA, (look p o.1.1).isSome)
theorem Take_ok {B : Nat} (hB : B ≤ 300) {o : DOut} (h : WFo B o) : ∃ r : (List Tadjout_Change × Unit) × (DOut × Unit), adjout_Out_Take.F (o, ()) = some r ∧ r.1.1 = (pendL o).map (chOf o) ∧ r.2.1.1 = o.1 ∧ WFo B r.2.1 ∧ ∀ q, look q r.2.1.2.1 = look q o.1.1 := by
  have hpl := pend_len h
  have e0 := Pending_F (by omega) h
  show ∃ r, adjout_Out_Take.f adjout_Out_Pending.F adjout_Out_Wanted.F attr_Canon.F FU o = some r ∧ _
  obtain ⟨P, hP⟩ : ∃ P, P = pendL o := ⟨_, rfl⟩
  rw [← hP] at hpl e0
  obtain ⟨⟨w, wc⟩, t, tc⟩ := o
  have hw : WFm B w wc := h.w
  have ht : WFm B t tc := h.t
  unfold adjout_Out_Take.f adjout_Out_Take.b
  rw [e0]
  simp only [Option.bind_some]
  rw [← hP]
  show ∃ r, iterN (fun k0 s => adjout_Out_Take.b0 adjout_Out_Pending.F adjout_Out_Wanted.F attr_Canon.F ((w, wc), t, tc) k0 s) FU ((P.length : Nat), 0, w, wc, t, tc, [], P) = some r ∧ _
  refine iterN_ex (Q := fun r : (List Tadjout_Change × Unit) × (DOut × Unit) => r.1.1 = P.map (chOf ((w, wc), t, tc)) ∧ r.2.1.1 = (w, wc) ∧ WFo B r.2.1 ∧ ∀ q, look q r.2.1.2.1 = look q w)
    (fun s => ∃ (i : Nat) (t' : MP) (tc' : Nat), s = (((P.length : Nat) : Int), (i : Int), w, wc, t', tc', (P.take i).map (chOf ((w, wc), t, tc)), P) ∧ i ≤ P.length ∧ WFm (B + i) t' tc' ∧ ∀ q, look q t' = if q ∈ P.take i then look q w else look q t) (fun s => P.length - s.2.1.toNat) ?_ FU _ ⟨0, t, tc, rfl, Nat.zero_le _, ht, fun q => by simp⟩ (FU_lt (by simp only []; omega))
  rintro s k ⟨i, t', tc', rfl, hi, ht', hq⟩ hk
  unfold adjout_Out_Take.b0
  simp only [Int.toNat_natCast]
  by_cases hlt : i < P.length
  · simp only [ltT hlt, ge0, Bool.and_self, cond_true]
    have hwt : WFo (B + i) ((w, wc), t', tc') := ⟨hw.mono (by omega), ht'⟩
    rw [Wanted_F hwt]
    simp only [Option.bind_some]
    rw [maxB (by rw [List.length_map, List.length_take]; omega) (by omega), wrap_succ hlt (by omega)]
    simp only [cond_true]
    obtain ⟨p, hp⟩ : ∃ p, p = P.getD i tyPrefix.dflt := ⟨_, rfl⟩
    have htk : P.take (i + 1) = P.take i ++ [P.getD i tyPrefix.dflt] := by
      rw [List.take_add_one, List.getD_eq_getElem?_getD, List.getElem?_eq_getElem hlt]
      rfl
    have hpm : P.getD i tyPrefix.dflt ∈ P := getD_mem hlt _
    have hpo : prefOk (P.getD i tyPrefix.dflt) := pend_ok h _ (hP ▸ hpm)
    have hch : (P.take (i + 1)).map (chOf ((w, wc), t, tc)) = (P.take i).map (chOf ((w, wc), t, tc)) ++ [chOf ((w, wc), t, tc) (P.getD i tyPrefix.dflt)] := by rw [htk, List.map_append]; rfl
    cases hl : look (P.getD i tyPrefix.dflt) w with
    | some a =>
      have hao := (hw.look_ok hl).2
      simp only [Option.getD_some, Option.isSome_some, cond_true]
      rw [canon_F hao]
      simp only [Option.bind_some]
      refine hk _ ⟨i + 1, _, _, ?_, hlt, ht'.put hpo hao, fun q => ?_⟩ (by simp only [Int.toNat_natCast]; omega)
      · rw [hch]
        unfold chOf
        rw [show look (P.getD i tyPrefix.dflt) ((w, wc), t, tc).1.1 = some a from hl]
        rfl
      · rw [put_look, hq, htk]
        by_cases hqp : q = P.getD i tyPrefix.dflt
        · rw [if_pos hqp, hqp, hl, if_pos (by simp)]
        · rw [if_neg hqp]
          simp only [List.mem_append, List.mem_singleton, hqp, or_false]
    | none =>
      simp only [Option.getD_none, Option.isSome_none, cond_false]
      refine hk _ ⟨i + 1, mapDel (keyEq tyPrefix) (P.getD i tyPrefix.dflt) t', tc', ?_, hlt, (ht'.del (P.getD i tyPrefix.dflt)).mono (by omega), fun q => ?_⟩ (by simp only [Int.toNat_natCast]; omega)
      · rw [hch]
        unfold chOf
        rw [show look (P.getD i tyPrefix.dflt) ((w, wc), t, tc).1.1 = none from hl]
        rfl
      · rw [del_look _ _ ht'.nk, hq, htk]
        by_cases hqp : q = P.getD i tyPrefix.dflt
        · rw [if_pos hqp, hqp, hl, if_pos (by simp)]
        · rw [if_neg hqp]
          simp only [List.mem_append, List.mem_singleton, hqp, or_false]
  · have hil : i = P.length := by omega
    simp only [ltF hlt, cond_false]
    have hlk : ∀ q, look q t' = look q w := fun q => by
      rw [hq, hil, List.take_of_length_le (Nat.le_refl _)]
      by_cases hm : q ∈ P
      · rw [if_pos hm]
      · rw [if_neg hm]
        rw [hP, mem_pend h] at hm
        exact (Classical.not_not.1 hm).symm
    refine ⟨_, rfl, by rw [hil, List.take_of_length_le (Nat.le_refl _)], rfl, ⟨hw, ht'.born, ht'.nb, ht'.nk, ht'.ok, ?_⟩, hlk⟩
    have h1 : (t'.map (·.2.1)).length ≤ (w.map (·.2.1)).length := nodup_le ht'.nk fun x hx => by
      obtain ⟨e, he, rfl⟩ := List.mem_map.1 hx
      have h2 := look_of ht'.nk he
      rw [hlk] at h2
      obtain ⟨e', he', h3, _⟩ := look_mem h2
      exact List.mem_map.2 ⟨e', he', h3⟩
    rw [List.length_map, List.length_map] at h1
    exact Nat.le_trans h1 hw.len
end BE
end
section
set_option linter.unusedVariables false
set_option linter.unusedSimpArgs false
namespace BE
open Go Go.Ev
structure Inv (B : Nat) (o : DOut) (l : List TL22_one) : Prop where
  wf : WFo B o
  len : l.length ≤ B
  srt : (l.map (·.1)).Pairwise fun a b => prefLt a b = true
  one : ∀ x ∈ l, prefOk x.1 ∧ look x.1 o.1.1 = (bif x.2.2.2.1 then some x.2.1 else none) ∧ look x.1 o.2.1 = (bif x.2.2.2.2 then some x.2.2.1 else none)
  all : ∀ p, look p o.1.1 ≠ none ∨ look p o.2.1 ≠ none → p ∈ l.map (·.1)
theorem Inv.mono {B B' : Nat} {o : DOut} {l : List TL22_one} (h : Inv B o l) (hB : B ≤ B') : Inv B' o l :=
  ⟨⟨h.wf.w.mono hB, h.wf.t.mono hB⟩, Nat.le_trans h.len hB, h.srt, h.one, h.all⟩
theorem inv_new (B : Nat) : Inv B (([], 0), ([], 0)) [] :=
  have hw : WFm B ([] : MP) 0 := ⟨fun e h => absurd h List.not_mem_nil, List.Pairwise.nil, List.Pairwise.nil, fun e h => absurd h List.not_mem_nil, Nat.zero_le _⟩
  ⟨⟨hw, hw⟩, Nat.zero_le _, List.Pairwise.nil, fun x h => absurd h List.not_mem_nil, fun p h => h.elim (fun h => absurd rfl h) (fun h => absurd rfl h)⟩
theorem wait_eq {B : Nat} {o : DOut} {l : List TL22_one} (h : Inv B o l) : pendL o = (l.filter fun x => pendB o x.1).map (·.1) := by
  refine sorted_eq (pend_sorted h.wf) (h.srt.sublist (List.filter_sublist.map _)) fun p => ?_
  rw [mem_pend h.wf, List.mem_map]
  constructor
  · intro hne
    have : p ∈ l.map (·.1) := h.all p (by
      cases h1 : look p o.1.1 with
      | some a => exact .inl (by simp)
      | none => exact .inr fun h2 => hne (by rw [h1, h2]))
    obtain ⟨x, hx, rfl⟩ := List.mem_map.1 this
    exact ⟨x, List.mem_filter.2 ⟨hx, (pendB_iff o _).2 hne⟩, rfl⟩
  · rintro ⟨x, hx, rfl⟩
    exact (pendB_iff o _).1 (List.mem_filter.1 hx).2
theorem eqA_self (a : TAttrs) : eqA a a = true := eqA_iff.2 rfl
end BE
end
section
set_option linter.unusedVariables false
set_option linter.unusedSimpArgs false
namespace BE
open Go Go.Ev
abbrev newOne (p : TPrefix) : TL22_one := (p, zA, zA, false, false)
theorem pbeq (x p : TPrefix) : (x.1 == p.1 && x.2 == p.2) = decide (x = p) := by
  obtain ⟨a, b⟩ := x
  obtain ⟨c, d⟩ := p
  by_cases h1 : a = c
  · by_cases h2 : b = d <;> simp [h1, h2]
  · simp [h1]
theorem Inv.ins {B : Nat} {o : DOut} {u v : List TL22_one} (h : Inv B o (u ++ v)) {p : TPrefix} (hp : prefOk p) (hu : ∀ x ∈ u, prefLt x.1 p = true) (hv : ∀ x ∈ v, prefLt p x.1 = true) : Inv (B + 1) o (u ++ newOne p :: v) := by
  have irr : ∀ x : TPrefix, prefLt x x = true → False := fun x hx => by rw [(prefLt_ord [x]).irr x (by simp)] at hx; cases hx
  have hn : p ∉ (u ++ v).map (·.1) := fun hm => by
    obtain ⟨x, hx, rfl⟩ := List.mem_map.1 hm
    rcases List.mem_append.1 hx with hx | hx
    · exact irr _ (hu x hx)
    · exact irr _ (hv x hx)
  have hs := h.srt
  have hl := h.len
  refine ⟨⟨h.wf.w.mono (by omega), h.wf.t.mono (by omega)⟩, by simp at hl ⊢; omega, ?_, fun x hx => ?_, fun q hq => ?_⟩
  · rw [List.map_append, List.pairwise_append] at hs
    rw [List.map_append, List.map_cons, List.pairwise_append]
    refine ⟨hs.1, List.pairwise_cons.2 ⟨fun y hy => ?_, hs.2.1⟩, fun a ha b hb => ?_⟩
    · obtain ⟨x, hx, rfl⟩ := List.mem_map.1 hy
      exact hv x hx
    · rcases List.mem_cons.1 hb with rfl | hb
      · obtain ⟨x, hx, rfl⟩ := List.mem_map.1 ha
        exact hu x hx
      · exact hs.2.2 a ha b hb
  · rcases List.mem_append.1 hx with hx | hx
    · exact h.one x (List.mem_append.2 (.inl hx))
    · rcases List.mem_cons.1 hx with rfl | hx
      · refine ⟨hp, ?_, ?_⟩
        · cases hc : look p o.1.1 with
          | none => rfl
          | some a => exact absurd (h.all p (.inl (by rw [hc]; simp))) hn
        · cases hc : look p o.2.1 with
          | none => rfl
          | some a => exact absurd (h.all p (.inr (by rw [hc]; simp))) hn
      · exact h.one x (List.mem_append.2 (.inr hx))
  · have := h.all q hq
    simp only [List.map_append, List.map_cons, List.mem_append, List.mem_cons] at this ⊢
    rcases this with h' | h'
    · exact .inl h'
    · exact .inr (.inr h')
theorem set_mid {α : Type} (u v : List α) (x y : α) : (u ++ x :: v).set u.length y = u ++ y :: v := by
  induction u with
  | nil => rfl
  | cons a u ih => simp [ih]
theorem getD_mid {α : Type} (u v : List α) (x d : α) : (u ++ x :: v).getD u.length d = x := by
  rw [List.getD_eq_getElem?_getD, List.getElem?_append_right (Nat.le_refl _)]
  simp
end BE
end
section
set_option linter.unusedVariables false
set_option linter.unusedSimpArgs false
namespace BE
open Go Go.Ev
def stepL {α : Type} (f : α → α) (l : List α) (i : Nat) : List α := (l.take i).map f ++ l.drop i
theorem Inv.want {B B' : Nat} {o : DOut} {u v : List TL22_one} {x : TL22_one} {p : TPrefix} {a : TAttrs} (h : Inv B o (u ++ x :: v)) (hx : x.1 = p) (hw : WFm B (mapPut (keyEq tyPrefix) p a o.1.1 o.1.2) (mapNext (keyEq tyPrefix) p o.1.1 o.1.2)) : Inv B ((mapPut (keyEq tyPrefix) p a o.1.1 o.1.2, mapNext (keyEq tyPrefix) p o.1.1 o.1.2), o.2) (u ++ (x.1, a, x.2.2.1, true, x.2.2.2.2) :: v) := by
  have irr : ∀ x : TPrefix, prefLt x x = true → False := fun x hx => by rw [(prefLt_ord [x]).irr x (by simp)] at hx; cases hx
  have hm : ∀ y : TL22_one, ((u ++ (x.1, y.2) :: v).map (·.1)) = (u ++ x :: v).map (·.1) := fun y => by simp
  have hs := h.srt
  rw [List.map_append, List.map_cons, List.pairwise_append] at hs
  have hs2 := List.pairwise_cons.1 hs.2.1
  have hne : ∀ y, y ∈ u ∨ y ∈ v → y.1 ≠ p := by
    rintro y (hy | hy) e
    · have := hs.2.2 y.1 (List.mem_map.2 ⟨y, hy, rfl⟩) x.1 List.mem_cons_self
      rw [e, hx] at this
      exact irr _ this
    · have := hs2.1 y.1 (List.mem_map.2 ⟨y, hy, rfl⟩)
      rw [e, hx] at this
      exact irr _ this
  have hx1 := h.one x (List.mem_append.2 (.inr List.mem_cons_self))
  have hkeep : ∀ y, y ∈ u ∨ y ∈ v → prefOk y.1 ∧ look y.1 (mapPut (keyEq tyPrefix) p a o.1.1 o.1.2) = (bif y.2.2.2.1 then some y.2.1 else none) ∧ look y.1 o.2.1 = (bif y.2.2.2.2 then some y.2.2.1 else none) := fun y hy => by
    have hyl : y ∈ u ++ x :: v := by
      rcases hy with hy | hy
      · exact List.mem_append.2 (.inl hy)
      · exact List.mem_append.2 (.inr (List.mem_cons_of_mem _ hy))
    rw [put_look, if_neg (hne y hy)]
    exact h.one y hyl
  refine ⟨⟨hw, h.wf.t⟩, by simpa using h.len, by simpa using h.srt, fun y hy => ?_, fun q hq => ?_⟩
  · rcases List.mem_append.1 hy with hy | hy
    · exact hkeep y (.inl hy)
    · rcases List.mem_cons.1 hy with rfl | hy
      · refine ⟨hx1.1, ?_, hx1.2.2⟩
        show look x.1 (mapPut (keyEq tyPrefix) p a o.1.1 o.1.2) = some a
        rw [put_look, if_pos hx]
      · exact hkeep y (.inr hy)
  · rw [hm (p, a, x.2.2.1, true, x.2.2.2.2)]
    by_cases hqp : q = p
    · rw [hqp, ← hx]
      simp
    · refine h.all q (hq.imp (fun h1 => ?_) id)
      rw [show look q ((mapPut (keyEq tyPrefix) p a o.1.1 o.1.2, mapNext (keyEq tyPrefix) p o.1.1 o.1.2), o.2).1.1 = _ from put_look p a q o.1.1 o.1.2, if_neg hqp] at h1
      exact h1
end BE
end
section
set_option linter.unusedVariables false
set_option linter.unusedSimpArgs false
namespace BE
open Go Go.Ev
def off (p : TPrefix) (x : TL22_one) : TL22_one := bif decide (x.1 = p) then (x.1, x.2.1, x.2.2.1, false, x.2.2.2.2) else x
theorem off_fst (p : TPrefix) (x : TL22_one) : (off p x).1 = x.1 := by unfold off; cases decide (x.1 = p) <;> rfl
theorem Inv.lack {B : Nat} {o : DOut} {l : List TL22_one} (h : Inv B o l) (p : TPrefix) : Inv B ((mapDel (keyEq tyPrefix) p o.1.1, o.1.2), o.2) (l.map (off p)) := by
  have hm : (l.map (off p)).map (·.1) = l.map (·.1) := by
    rw [List.map_map]
    exact List.map_congr_left fun x _ => off_fst p x
  refine ⟨⟨h.wf.w.del p, h.wf.t⟩, by rw [List.length_map]; exact h.len, by rw [hm]; exact h.srt, fun y hy => ?_, fun q hq => ?_⟩
  · obtain ⟨x, hx, rfl⟩ := List.mem_map.1 hy
    obtain ⟨h1, h2, h3⟩ := h.one x hx
    rw [off_fst]
    refine ⟨h1, ?_, ?_⟩
    · show look x.1 (mapDel (keyEq tyPrefix) p o.1.1) = _
      rw [del_look _ _ h.wf.w.nk]
      unfold off
      by_cases he : x.1 = p
      · rw [if_pos he, decide_eq_true he]
        rfl
      · rw [if_neg he, decide_eq_false he]
        exact h2
    · unfold off
      cases decide (x.1 = p) <;> exact h3
  · rw [hm]
    refine h.all q (hq.imp (fun h1 => ?_) id)
    rw [show look q ((mapDel (keyEq tyPrefix) p o.1.1, o.1.2), o.2).1.1 = _ from del_look p q h.wf.w.nk] at h1
    intro h2
    rw [h2] at h1
    split at h1 <;> exact h1 rfl
noncomputable def upd (o : DOut) (x : TL22_one) : TL22_one := bif pendB o x.1 then (x.1, x.2.1, x.2.1, x.2.2.2.1, x.2.2.2.1) else x
theorem upd_fst (o : DOut) (x : TL22_one) : (upd o x).1 = x.1 := by unfold upd; cases pendB o x.1 <;> rfl
theorem Inv.take {B : Nat} {o o' : DOut} {l : List TL22_one} (h : Inv B o l) (hw : WFo B o') (h1 : o'.1 = o.1) (h2 : ∀ q, look q o'.2.1 = look q o.1.1) : Inv B o' (l.map (upd o)) := by
  have hm : (l.map (upd o)).map (·.1) = l.map (·.1) := by
    rw [List.map_map]
    exact List.map_congr_left fun x _ => upd_fst o x
  refine ⟨hw, by rw [List.length_map]; exact h.len, by rw [hm]; exact h.srt, fun y hy => ?_, fun q hq => ?_⟩
  · obtain ⟨x, hx, rfl⟩ := List.mem_map.1 hy
    obtain ⟨h3, h4, h5⟩ := h.one x hx
    rw [upd_fst, h1, h2]
    unfold upd
    cases hc : pendB o x.1 with
    | true => exact ⟨h3, h4, h4⟩
    | false =>
      refine ⟨h3, h4, ?_⟩
      have : look x.1 o.1.1 = look x.1 o.2.1 := Classical.not_not.1 fun hne => by
        rw [(pendB_iff o x.1).2 hne] at hc
        cases hc
      rw [this]
      exact h5
  · rw [hm]
    rw [h1, h2] at hq
    exact h.all q (.inl (hq.elim id id))
end BE
end
section
set_option linter.unusedVariables false
set_option linter.unusedSimpArgs false
namespace BE
open Go Go.Ev
theorem irrP (x : TPrefix) (hx : prefLt x x = true) : False := by rw [(prefLt_ord [x]).irr x (by simp)] at hx; cases hx
theorem at_gen {l : List TL22_one} (hl : l.length ≤ 1000000) (hok : ∀ x ∈ l, prefOk x.1) (hsrt : (l.map (·.1)).Pairwise fun a b => prefLt a b = true) {p : TPrefix} (hp : prefOk p) : ∃ (u v : List TL22_one) (x : TL22_one), L22_at.F (some l, p, ()) = some (((u ++ x :: v, ((u.length : Nat) : Int), ()), ((none : Option (List TL22_one)), p, ())) : (List TL22_one × Int × Unit) × (Option (List TL22_one) × TPrefix × Unit)) ∧ x.1 = p ∧ (u ++ x :: v = l ∨ (u ++ v = l ∧ x = newOne p ∧ (∀ y ∈ u, prefLt y.1 p = true) ∧ (∀ y ∈ v, prefLt p y.1 = true))) := by
  suffices ∃ r, L22_at.f Ref1_Less.F FU l p = some r ∧ ∃ (u v : List TL22_one) (x : TL22_one), r = ((u ++ x :: v, ((u.length : Nat) : Int), ()), ((none : Option (List TL22_one)), p, ())) ∧ x.1 = p ∧ (u ++ x :: v = l ∨ (u ++ v = l ∧ x = newOne p ∧ (∀ y ∈ u, prefLt y.1 p = true) ∧ (∀ y ∈ v, prefLt p y.1 = true))) by
    obtain ⟨_, h1, u, v, x, rfl, h2⟩ := this
    exact ⟨u, v, x, h1, h2⟩
  obtain ⟨p1, p2⟩ := p
  show ∃ r, iterN (fun k0 s => L22_at.b0 Ref1_Less.F l (p1, p2) k0 s) FU (0, p1, p2) = some r ∧ _
  refine iterN_ex (Q := fun r => ∃ (u v : List TL22_one) (x : TL22_one), r = ((u ++ x :: v, ((u.length : Nat) : Int), ()), ((none : Option (List TL22_one)), (p1, p2), ())) ∧ x.1 = (p1, p2) ∧ (u ++ x :: v = l ∨ (u ++ v = l ∧ x = newOne (p1, p2) ∧ (∀ y ∈ u, prefLt y.1 (p1, p2) = true) ∧ (∀ y ∈ v, prefLt (p1, p2) y.1 = true)))) (fun s => ∃ i : Nat, i ≤ l.length ∧ s = ((i : Int), p1, p2) ∧ ∀ x ∈ l.take i, prefLt x.1 (p1, p2) = true) (fun s => l.length - s.1.toNat) ?_ FU _ ⟨0, Nat.zero_le _, rfl, by simp⟩ (FU_lt (by simp only []; omega))
  rintro s k ⟨i, hi, rfl, hlo⟩ hk
  unfold L22_at.b0
  simp only [Int.toNat_natCast]
  have htk : (List.take (i - 0) (List.drop 0 l)) = l.take i := by simp
  have hdr : (List.take (l.length - i) (List.drop i l)) = l.drop i := List.take_of_length_le (by rw [List.length_drop]; omega)
  have hsplit : l.take i ++ l.drop i = l := List.take_append_drop i l
  have hlen : (l.take i).length = i := by rw [List.length_take]; omega
  have hle : decide ((i : Int) ≤ (l.length : Nat)) = true := decide_eq_true (by omega)
  have hll : decide (((l.length : Nat) : Int) ≤ (l.length : Nat)) = true := decide_eq_true (by omega)
  have mm1 := maxB (a := 0 + (List.take (i - 0) (List.drop 0 l)).length) (k := 184) (by rw [htk, hlen]; omega) (by omega)
  have mm2 := maxB (a := ([] ++ List.take (i - 0) (List.drop 0 l)).length + 1) (k := 184) (by rw [htk, List.nil_append, hlen]; omega) (by omega)
  have mm3 := maxB (a := ([] ++ List.take (i - 0) (List.drop 0 l) ++ [newOne (p1, p2)]).length + (List.take (l.length - i) (List.drop i l)).length) (k := 184) (by rw [htk, List.nil_append, hdr, List.length_append, hlen, List.length_drop]; simp; omega) (by omega)
  have ins : (∀ x ∈ l.drop i, prefLt (p1, p2) x.1 = true) → ∃ r, some (([] ++ List.take (i - 0) (List.drop 0 l) ++ [newOne (p1, p2)] ++ List.take (l.length - i) (List.drop i l), (i : Int), ()), ((none : Option (List TL22_one)), ((p1, p2), PUnit.unit))) = some r ∧ ∃ (u v : List TL22_one) (x : TL22_one), r = ((u ++ x :: v, ((u.length : Nat) : Int), ()), ((none : Option (List TL22_one)), (p1, p2), ())) ∧ x.1 = (p1, p2) ∧ (u ++ x :: v = l ∨ (u ++ v = l ∧ x = newOne (p1, p2) ∧ (∀ y ∈ u, prefLt y.1 (p1, p2) = true) ∧ (∀ y ∈ v, prefLt (p1, p2) y.1 = true))) := fun hhi =>
    ⟨_, rfl, l.take i, l.drop i, newOne (p1, p2), by rw [htk, hdr, hlen]; simp, rfl, .inr ⟨hsplit, rfl, hlo, hhi⟩⟩
  by_cases hlt : i < l.length
  · have hx : l.getD i tyL22_one.dflt ∈ l := getD_mem hlt _
    have hdg := drop_getD hlt tyL22_one.dflt
    obtain ⟨x, hxe⟩ : ∃ x, l.getD i tyL22_one.dflt = x := ⟨_, rfl⟩
    have hg : List.getD (α := TL22_one) l i tyL22_one.dflt = x := hxe
    rw [hxe] at hx hdg
    simp only [ltT hlt, ge0, Bool.and_self, cond_true, hg, hle, hll]
    rw [(less_eq (hok x hx) hp).2]
    simp only [Option.bind_some]
    cases hc : prefLt x.1 (p1, p2) with
    | true =>
      simp only [cond_true]
      rw [wrap_succ hlt (by omega)]
      refine hk _ ⟨i + 1, hlt, rfl, fun y hy => ?_⟩ (by simp only [Int.toNat_natCast]; omega)
      rw [List.take_add_one, List.getElem?_eq_getElem hlt] at hy
      rcases List.mem_append.1 hy with hy | hy
      · exact hlo y hy
      · have h9 : y = l[i] := by simpa using hy
        have h8 : l[i] = x := by rw [← hxe, List.getD_eq_getElem?_getD, List.getElem?_eq_getElem hlt]; rfl
        rw [h9, h8]
        exact hc
    | false =>
      simp only [cond_false]
      rw [pbeq x.1 (p1, p2)]
      by_cases he : x.1 = (p1, p2)
      · rw [decide_eq_true he, cond_true]
        exact ⟨_, rfl, l.take i, l.drop (i + 1), x, by rw [← hdg, hsplit, hlen], he, .inl (by rw [← hdg, hsplit])⟩
      · rw [decide_eq_false he, cond_false]
        rw [mm1, mm2]
        simp only [cond_true]
        rw [mm3]
        refine ins fun y hy => ?_
        have h1 : prefLt (p1, p2) x.1 = true := by
          cases h2 : prefLt (p1, p2) x.1 with
          | true => rfl
          | false => exact absurd ((prefLt_ord [x.1, (p1, p2)]).tot _ (by simp) _ (by simp) hc h2) he
        rw [hdg] at hy
        rcases List.mem_cons.1 hy with rfl | hy
        · exact h1
        · have hs := hsrt
          rw [← hsplit, hdg, List.map_append, List.map_cons] at hs
          have := (List.pairwise_cons.1 (List.pairwise_append.1 hs).2.1).1 y.1 (List.mem_map.2 ⟨y, hy, rfl⟩)
          exact (prefLt_ord [(p1, p2), x.1, y.1]).tr _ (by simp) _ (by simp) _ (by simp) h1 this
  · simp only [ltF hlt, cond_false, ge0, hle, hll, Bool.and_self, cond_true]
    rw [mm1, mm2]
    simp only [cond_true]
    rw [mm3]
    refine ins fun y hy => ?_
    rw [drop_all hlt] at hy
    cases hy
structure TInv (B : Nat) (T : TPrefix → Option TAttrs) (l : List TL22_one) : Prop where
  len : l.length ≤ B
  srt : (l.map (·.1)).Pairwise fun a b => prefLt a b = true
  one : ∀ x ∈ l, prefOk x.1 ∧ T x.1 = (bif x.2.2.2.1 then some x.2.1 else none)
  all : ∀ p, T p ≠ none → p ∈ l.map (·.1)
theorem TInv.ins {B : Nat} {T : TPrefix → Option TAttrs} {u v : List TL22_one} (h : TInv B T (u ++ v)) {p : TPrefix} (hp : prefOk p) (hu : ∀ x ∈ u, prefLt x.1 p = true) (hv : ∀ x ∈ v, prefLt p x.1 = true) : TInv (B + 1) T (u ++ newOne p :: v) := by
  have hn : p ∉ (u ++ v).map (·.1) := fun hm => by
    obtain ⟨x, hx, rfl⟩ := List.mem_map.1 hm
    rcases List.mem_append.1 hx with hx | hx
    · exact irrP _ (hu x hx)
    · exact irrP _ (hv x hx)
  have hs := h.srt
  have hl := h.len
  refine ⟨by simp at hl ⊢; omega, ?_, fun x hx => ?_, fun q hq => ?_⟩
  · rw [List.map_append, List.pairwise_append] at hs
    rw [List.map_append, List.map_cons, List.pairwise_append]
    refine ⟨hs.1, List.pairwise_cons.2 ⟨fun y hy => ?_, hs.2.1⟩, fun a ha b hb => ?_⟩
    · obtain ⟨x, hx, rfl⟩ := List.mem_map.1 hy
      exact hv x hx
    · rcases List.mem_cons.1 hb with rfl | hb
      · obtain ⟨x, hx, rfl⟩ := List.mem_map.1 ha
        exact hu x hx
      · exact hs.2.2 a ha b hb
  · rcases List.mem_append.1 hx with hx | hx
    · exact h.one x (List.mem_append.2 (.inl hx))
    · rcases List.mem_cons.1 hx with rfl | hx
      · refine ⟨hp, ?_⟩
        cases hc : T p with
        | none => rfl
        | some a => exact absurd (h.all p (by rw [hc]; simp)) hn
      · exact h.one x (List.mem_append.2 (.inr hx))
  · have := h.all q hq
    simp only [List.map_append, List.map_cons, List.mem_append, List.mem_cons] at this ⊢
    rcases this with h' | h'
    · exact .inl h'
    · exact .inr (.inr h')
theorem TInv.at {B : Nat} (hB : B ≤ 100000) {T : TPrefix → Option TAttrs} {l : List TL22_one} (h : TInv B T l) {p : TPrefix} (hp : prefOk p) : ∃ (u v : List TL22_one) (x : TL22_one), L22_at.F (some l, p, ()) = some (((u ++ x :: v, ((u.length : Nat) : Int), ()), ((none : Option (List TL22_one)), p, ())) : (List TL22_one × Int × Unit) × (Option (List TL22_one) × TPrefix × Unit)) ∧ x.1 = p ∧ TInv (B + 1) T (u ++ x :: v) := by
  have hl := h.len
  obtain ⟨u, v, x, h1, h2, h3⟩ := at_gen (l := l) (by omega) (fun x hx => (h.one x hx).1) h.srt hp
  refine ⟨u, v, x, h1, h2, ?_⟩
  rcases h3 with rfl | ⟨rfl, rfl, h4, h5⟩
  · exact ⟨by omega, h.srt, h.one, h.all⟩
  · exact h.ins hp h4 h5
theorem TInv.set {B : Nat} {T T' : TPrefix → Option TAttrs} {u v : List TL22_one} {x : TL22_one} {p : TPrefix} {a : TAttrs} {b : Bool} (h : TInv B T (u ++ x :: v)) (hx : x.1 = p) (hT : ∀ q, q ≠ p → T' q = T q) (hp : T' p = bif b then some a else none) : TInv B T' (u ++ (x.1, a, x.2.2.1, b, x.2.2.2.2) :: v) := by
  have hs := h.srt
  rw [List.map_append, List.map_cons, List.pairwise_append] at hs
  have hs2 := List.pairwise_cons.1 hs.2.1
  have hne : ∀ y, y ∈ u ∨ y ∈ v → y.1 ≠ p := by
    rintro y (hy | hy) e
    · have := hs.2.2 y.1 (List.mem_map.2 ⟨y, hy, rfl⟩) x.1 List.mem_cons_self
      rw [e, hx] at this
      exact irrP _ this
    · have := hs2.1 y.1 (List.mem_map.2 ⟨y, hy, rfl⟩)
      rw [e, hx] at this
      exact irrP _ this
  have hlen := h.len
  have hsrt := h.srt
  refine ⟨by rw [List.length_append, List.length_cons] at hlen ⊢; exact hlen, by rw [List.map_append, List.map_cons] at hsrt ⊢; exact hsrt, fun y hy => ?_, fun q hq => ?_⟩
  · rcases List.mem_append.1 hy with hy | hy
    · rw [hT _ (hne y (.inl hy))]
      exact h.one y (List.mem_append.2 (.inl hy))
    · rcases List.mem_cons.1 hy with rfl | hy
      · exact ⟨(h.one x (List.mem_append.2 (.inr List.mem_cons_self))).1, by rw [← hx] at hp; exact hp⟩
      · rw [hT _ (hne y (.inr hy))]
        exact h.one y (List.mem_append.2 (.inr (List.mem_cons_of_mem _ hy)))
  · have hm : ∀ y : TL22_one, ((u ++ (x.1, y.2) :: v).map (·.1)) = (u ++ x :: v).map (·.1) := fun y => by rw [List.map_append, List.map_append, List.map_cons, List.map_cons]
    rw [hm (x.1, a, x.2.2.1, b, x.2.2.2.2)]
    by_cases hqp : q = p
    · rw [hqp, ← hx]
      exact List.mem_map.2 ⟨x, List.mem_append.2 (.inr List.mem_cons_self), rfl⟩
    · rw [hT q hqp] at hq
      exact h.all q hq
end BE
end
section
set_option linter.unusedVariables false
set_option linter.unusedSimpArgs false
namespace BE
open Go Go.Ev
abbrev oNew : DOut := (([], 0), ([], 0))
abbrev p8 : TPrefix := (167772160, 8)
theorem p8_ok : prefOk p8 := ⟨by decide, by decide, by decide, by decide, by decide⟩
theorem tame0 : ∃ r, Keep_Tame.F (zA, 65001, ()) = some (r, ()) ∧ rgB r = true := by
  obtain ⟨r, h1, h2⟩ := tame_ok zA 65001
  refine ⟨r, h1, ?_⟩
  have : Keep_Tame.F (zA, 65001, ()) = some (((0 : Int), [((2 : Int), [(65001 : Int)])], (3221225984 : Int), false, (0 : Int), false, (0 : Int), false, []), ()) := by
    show Keep_Tame.f Book_Within.F Keep_Next.F Ref7_Put.F FU zA 65001 = _
    obtain ⟨m, hm⟩ := FU_more
    rw [hm]
    rfl
  rw [this] at h1
  injection h1 with h1
  injection h1 with h1
  rw [← h1]
  decide
theorem known_b {c0 : Z7} {c1 : Z9} {c2 : Z10} {c3 : Z15} {c4 : Z12} {c5 : Z11} {a a' : TAttrs} {o1 o4 : DOut} {r4 r6 : (List Tadjout_Change × Unit) × (DOut × Unit)} {q : List TPrefix} (e0 : c0 () = some ((oNew, ()), ())) (e1 : c1 (zA, 65001, ()) = some (a, ())) (e2 : c2 (oNew, p8, a, ()) = some ((0, ()), (o1, p8, a, ())))
    (e3 : c3 (o1, ()) = some ([p8], ())) (e4 : c4 (o1, ()) = some r4) (h4 : r4.1.1 = [(p8, a', true)]) (e5 : c3 (r4.2.1, ()) = some ([], ())) (e6 : c4 (r4.2.1, ()) = some r6) (h6 : r6.1.1 = []) (e7 : c5 (r6.2.1, p8, ()) = some ((true, ()), (o4, p8, ()))) (e8 : c3 (o4, ()) = some (q, ())) (hq : q.length = 1) : L22_known.b c0 c1 c2 c3 c4 c5 = some (true, ()) := by
  unfold L22_known.b
  rw [e0, e1]
  simp only [Option.bind_some]
  rw [e2]
  simp only [Option.bind_some]
  rw [e3, e4]
  simp only [Option.bind_some, h4]
  rw [e5]
  simp only [Option.bind_some, List.length_cons, List.length_nil]
  rw [e6]
  simp only [Option.bind_some, h6]
  rw [e7]
  simp only [Option.bind_some]
  rw [e8]
  simp only [Option.bind_some, hq]
  rfl
theorem known_F : L22_known.F () = some (true, ()) := by
  obtain ⟨a, ha, hr⟩ := tame0
  have hao : attrOk a := by
    obtain ⟨a2, h1, h2⟩ := tame_ok zA 65001
    rw [h1] at ha
    injection ha with ha
    injection ha with ha
    rw [← ha]
    exact h2
  have hi0 : Inv 1 oNew ([] ++ newOne p8 :: []) := Inv.ins (u := []) (v := []) (inv_new 0) p8_ok (fun x h => absurd h List.not_mem_nil) (fun x h => absurd h List.not_mem_nil)
  have hi1 := Inv.want (B' := 0) (u := []) (v := []) (a := a) hi0 (rfl : (newOne p8).1 = p8) ((inv_new 0).wf.w.put p8_ok hao)
  obtain ⟨o1, ho1⟩ : ∃ o1 : DOut, o1 = ((mapPut (keyEq tyPrefix) p8 a oNew.1.1 oNew.1.2, mapNext (keyEq tyPrefix) p8 oNew.1.1 oNew.1.2), oNew.2) := ⟨_, rfl⟩
  have hw := Want_F (o := oNew) (p := p8) (by decide) (by decide) hao.small
  rw [(rightB_iff (p := p8) (by decide) (by decide)).2 p8_ok, hr] at hw
  rw [← ho1] at hi1
  have hl1 : look p8 o1.1.1 = some a := by
    rw [ho1]
    exact (put_look p8 a p8 oNew.1.1 oNew.1.2).trans (if_pos rfl)
  have ht1 : look p8 o1.2.1 = none := by rw [ho1]; rfl
  have hp1 : pendL o1 = [p8] := by
    rw [wait_eq hi1]
    show (List.filter (fun x : TL22_one => pendB o1 x.1) [(p8, a, zA, true, false)]).map (·.1) = [p8]
    have hb : pendB o1 p8 = true := (pendB_iff o1 p8).2 (by rw [hl1, ht1]; simp)
    rw [List.filter_cons_of_pos (by exact hb)]
    rfl
  have e3 := Pending_F (by omega) hi1.wf
  rw [hp1] at e3
  obtain ⟨r4, e4, h4, h41, hwf2, hlk2⟩ := Take_ok (by omega) hi1.wf
  rw [hp1] at h4
  have hi2 := hi1.take hwf2 h41 hlk2
  have nil_of : ∀ o : DOut, WFo 1 o → (∀ q, look q o.1.1 = look q o.2.1) → pendL o = [] := fun o hwf h => List.eq_nil_iff_forall_not_mem.2 fun q hq => (mem_pend hwf).1 hq (h q)
  have hp2 : pendL r4.2.1 = [] := nil_of _ hwf2 fun q => by rw [hlk2, h41]
  have e5 := Pending_F (by omega) hwf2
  rw [hp2] at e5
  obtain ⟨r6, e6, h6, h61, hwf3, hlk3⟩ := Take_ok (by omega) hwf2
  rw [hp2] at h6
  have hi3 := hi2.take hwf3 h61 hlk3
  have e7 := Lack_F r6.2.1 p8
  have hl3 : look p8 r6.2.1.1.1 = some a := by rw [h61, h41, hl1]
  rw [hl3] at e7
  have hi4 := hi3.lack p8
  have e8 := Pending_F (by omega) hi4.wf
  have hp4 : (pendL ((mapDel (keyEq tyPrefix) p8 r6.2.1.1.1, r6.2.1.1.2), r6.2.1.2)).length = 1 := by
    have hm : p8 ∈ pendL ((mapDel (keyEq tyPrefix) p8 r6.2.1.1.1, r6.2.1.1.2), r6.2.1.2) := (mem_pend hi4.wf).2 (by
      show look p8 (mapDel (keyEq tyPrefix) p8 r6.2.1.1.1) ≠ look p8 r6.2.1.2.1
      rw [del_look _ _ hi3.wf.w.nk, if_pos rfl, hlk3, h41, hl1]
      simp)
    have h1 : (pendL ((mapDel (keyEq tyPrefix) p8 r6.2.1.1.1, r6.2.1.1.2), r6.2.1.2)).length ≤ 1 := by
      rw [wait_eq hi4, List.length_map]
      exact List.length_filter_le _ _
    have h2 := List.length_pos_of_mem hm
    omega
  exact known_b (o4 := ((mapDel (keyEq tyPrefix) p8 r6.2.1.1.1, r6.2.1.1.2), r6.2.1.2)) (c0 := adjout_New.F) (c1 := Keep_Tame.F) (c2 := adjout_Out_Want.F) (c3 := adjout_Out_Pending.F) (c4 := adjout_Out_Take.F) (c5 := adjout_Out_Lack.F) rfl ha (by rw [ho1]; exact hw) e3 e4 (a' := a) (h4.trans (by show [(p8, (look p8 o1.1.1).getD zA, (look p8 o1.1.1).isSome)] = [(p8, a, true)]; rw [hl1]; rfl)) e5 e6 h6 e7 e8 hp4
end BE
end
section
set_option linter.unusedVariables false
set_option linter.unusedSimpArgs false
namespace BE
open Go Go.Ev
section
variable {c0 : Unit → Option ((DOut × Unit) × (Unit))} {c1 : TL22_Ask × Unit → Option (TPrefix × Unit)} {c2 : TAttrs × Int × Unit → Option (TAttrs × Unit)} {c3 : DOut × TPrefix × TAttrs × Unit → Option ((Int × Unit) × (DOut × TPrefix × TAttrs × Unit))} {c4 : DOut × TPrefix × Unit → Option ((Bool × Unit) × (DOut × TPrefix × Unit))} {c5 : DOut × Unit → Option ((List Tadjout_Change × Unit) × (DOut × Unit))} {c6 : (Option (List TL22_one)) × TPrefix × Unit → Option ((List TL22_one × Int × Unit) × ((Option (List TL22_one)) × TPrefix × Unit))} {c7 : TAttrs × TAttrs × Unit → Option (Bool × Unit)} {c8 : Tadjout_Out × Unit → Option (List TPrefix × Unit)} {c9 : DOut × TPrefix × Unit → Option ((TAttrs × Bool × Unit) × (DOut × TPrefix × Unit))} {c10 : Unit → Option (Bool × Unit)}
def isL (l : List TL22_one) : List TPrefix := (l.filter (·.2.2.2.1)).map (·.1)
theorem told_l2 {a0 : List TL22_Ask} {i : Int} {D : Nat} (hD : D ≤ 100000) {o : DOut} {l : List TL22_one} (h : TInv D (fun q => look q o.1.1) l) (hok : ∀ x ∈ l, x.2.2.2.1 = true → attrOk x.2.1) {k0 : (Int × DOut × (List TL22_one)) → Option (Bool × Unit)}
    (e9 : ∀ p, c9 (o, p, ()) = some (((look p o.1.1).getD zA, (look p o.1.1).isSome, ()), (o, p, ()))) (e7 : ∀ a b, attrOk a → attrOk b → c7 (a, b, ()) = some (eqA a b, ())) (hk0 : k0 (wI (i + 1), o, l) = some (true, ())) :
    L22_AdjoutTold.l2 c0 c1 c2 c3 c4 c5 c6 c7 c8 c9 c10 FU a0 i l k0 FU (0, 0, o, isL l) = some (true, ()) := by
  have hl := h.len
  have hle : (isL l).length ≤ l.length := by unfold isL; rw [List.length_map]; exact List.length_filter_le _ _
  show iterN (fun k2 s => L22_AdjoutTold.b2 c0 c1 c2 c3 c4 c5 c6 c7 c8 c9 c10 a0 i l k0 k2 s) FU (0, 0, o, isL l) = _
  refine iterN_eq (F := fun _ => some (true, ())) (fun s : Int × Int × DOut × List TPrefix => ∃ n k : Nat, s = ((n : Int), (k : Int), o, isL l) ∧ k ≤ l.length ∧ n = (isL (l.take k)).length) (fun s => l.length - s.2.1.toNat) ?_ FU _ ⟨0, 0, rfl, Nat.zero_le _, by simp [isL]⟩ (FU_lt (by simp only []; omega))
  rintro s kk ⟨n, k, rfl, hk, hn⟩ hkk
  unfold L22_AdjoutTold.b2
  simp only [grd, ib, Int.toNat_natCast]
  have hsp : isL l = isL (l.take k) ++ isL (l.drop k) := by
    unfold isL
    rw [← List.map_append, ← List.filter_append, List.take_append_drop]
  by_cases hlt : k < l.length
  · have hx : l.getD k tyL22_one.dflt ∈ l := getD_mem hlt _
    have hdg := drop_getD hlt tyL22_one.dflt
    have htk : l.take (k + 1) = l.take k ++ [l.getD k tyL22_one.dflt] := by
      rw [List.take_add_one, List.getD_eq_getElem?_getD, List.getElem?_eq_getElem hlt]
      rfl
    obtain ⟨x, hxe⟩ : ∃ x, l.getD k tyL22_one.dflt = x := ⟨_, rfl⟩
    have hg : List.getD (α := TL22_one) l k tyL22_one.dflt = x := hxe
    rw [hxe] at hx hdg htk
    simp only [ltT hlt, ge0, Bool.and_self, cond_true, hg]
    obtain ⟨g1, g2⟩ := h.one x hx
    rw [wrap_succ hlt (by omega)]
    cases hc : x.2.2.2.1 with
    | false =>
      simp only [Bool.not_false, cond_true]
      exact hkk _ ⟨n, k + 1, rfl, hlt, by rw [hn, htk]; unfold isL; simp [hc]⟩ (by simp only [Int.toNat_natCast]; omega)
    | true =>
      simp only [Bool.not_true, cond_false]
      rw [hc, cond_true] at g2
      rw [e9 x.1, show look x.1 o.1.1 = some x.2.1 from g2]
      have hd : isL (l.drop k) = x.1 :: isL (l.drop (k + 1)) := by
        rw [hdg]
        unfold isL
        rw [List.filter_cons_of_pos (by exact hc), List.map_cons]
      have hln : n < (isL l).length := by rw [hsp, hd, List.length_append, List.length_cons]; omega
      have hat : List.getD (α := TPrefix) (isL l) n tyPrefix.dflt = x.1 := by
        rw [hsp, hd, hn, getD_mid]
      simp only [Option.bind_some]
      rw [decide_eq_false (show ¬ (n : Int) ≥ ((isL l).length : Nat) by omega), hat, pbeq, decide_eq_true (rfl : x.1 = x.1)]
      simp only [ltT hln, ge0, Bool.and_self, cond_true, cond_false, Bool.not_true, Option.isSome_some, Option.getD_some]
      rw [e7 _ _ (hok x hx hc) (hok x hx hc), eqA_self]
      simp only [Option.bind_some, Bool.not_true, cond_false]
      rw [wrap_succ hln (by omega)]
      exact hkk _ ⟨n + 1, k + 1, rfl, hlt, by rw [hn, htk]; unfold isL; simp [hc]⟩ (by simp only [Int.toNat_natCast]; omega)
  · simp only [ltF hlt, cond_false]
    have hen : n = (isL l).length := by
      rw [hn, List.take_of_length_le (by omega)]
    rw [show ((n : Int) != ((isL l).length : Nat)) = false by rw [hen]; simp]
    exact hk0
noncomputable def telK (o : DOut) (P : List TPrefix) (q : TPrefix) : Option TAttrs := if q ∈ P then look q o.1.1 else look q o.2.1
theorem told_l1 {a0 : List TL22_Ask} {i : Int} {B D : Nat} (hB : B ≤ 300) (hD : D + 600 ≤ 100000) {o0 o : DOut} (hw : WFo B o0) {l : List TL22_one} (h : TInv D (fun q => look q o0.2.1) l) {k0 : (Int × DOut × (List TL22_one)) → Option (Bool × Unit)}
    (e6 : ∀ (D : Nat) (T : TPrefix → Option TAttrs) (l : List TL22_one) (p : TPrefix), D ≤ 100000 → TInv D T l → prefOk p → ∃ (u v : List TL22_one) (x : TL22_one), c6 (some l, p, ()) = some (((u ++ x :: v, ((u.length : Nat) : Int), ()), ((none : Option (List TL22_one)), p, ())) : (List TL22_one × Int × Unit) × (Option (List TL22_one) × TPrefix × Unit)) ∧ x.1 = p ∧ TInv (D + 1) T (u ++ x :: v))
    (e7 : ∀ a b, attrOk a → attrOk b → c7 (a, b, ()) = some (eqA a b, ()))
    (hend : ∀ l', TInv (D + 600) (fun q => look q o0.1.1) l' → ((c8 (o, ())).bind fun r4 => L22_AdjoutTold.l2 c0 c1 c2 c3 c4 c5 c6 c7 c8 c9 c10 FU a0 i l' k0 FU ((0 : Int), (0 : Int), o, r4.fst)) = some (true, ())) :
    L22_AdjoutTold.l1 c0 c1 c2 c3 c4 c5 c6 c7 c8 c9 c10 FU a0 i k0 FU (0, o, l, (pendL o0).map (chOf o0)) = some (true, ()) := by
  have hpl := pend_len hw
  have hps := pend_sorted hw
  obtain ⟨P, hP⟩ : ∃ P, P = pendL o0 := ⟨_, rfl⟩
  have hmem : ∀ p, p ∈ P ↔ look p o0.1.1 ≠ look p o0.2.1 := fun p => by rw [hP]; exact mem_pend hw
  have hpok : ∀ p ∈ P, prefOk p := fun p hp => pend_ok hw p (hP ▸ hp)
  rw [← hP] at hpl hps ⊢
  have hcl : (P.map (chOf o0)).length = P.length := List.length_map ..
  show iterN (fun k1 s => L22_AdjoutTold.b1 c0 c1 c2 c3 c4 c5 c6 c7 c8 c9 c10 a0 i (fun x0_1 x1_4 t => L22_AdjoutTold.l2 c0 c1 c2 c3 c4 c5 c6 c7 c8 c9 c10 FU a0 x0_1 x1_4 k0 FU t) k0 k1 s) FU (0, o, l, P.map (chOf o0)) = _
  refine iterN_eq (F := fun _ => some (true, ())) (fun s : Int × DOut × List TL22_one × List Tadjout_Change => ∃ (k : Nat) (l : List TL22_one), s = ((k : Int), o, l, P.map (chOf o0)) ∧ k ≤ P.length ∧ TInv (D + k) (telK o0 (P.take k)) l) (fun s => P.length - s.1.toNat) ?_ FU _ ⟨0, l, rfl, Nat.zero_le _, (by
    rw [List.take_zero, show telK o0 [] = (fun q => look q o0.2.1) from funext fun q => if_neg (by simp)]
    exact h)⟩ (FU_lt (by simp only []; omega))
  rintro s kk ⟨k, l, rfl, hk, hT⟩ hkk
  unfold L22_AdjoutTold.b1
  simp only [grd, ib, Int.toNat_natCast]
  by_cases hlt : k < P.length
  · have hltc : k < (P.map (chOf o0)).length := by rw [hcl]; exact hlt
    obtain ⟨p, hp⟩ : ∃ p, P.getD k tyPrefix.dflt = p := ⟨_, rfl⟩
    have hpm : p ∈ P := by rw [← hp]; exact getD_mem hlt _
    have hg : List.getD (α := Tadjout_Change) (P.map (chOf o0)) k tyadjout_Change.dflt = chOf o0 p := by
      rw [← hp, List.getD_eq_getElem?_getD, List.getD_eq_getElem?_getD, List.getElem?_map, List.getElem?_eq_getElem hlt]
      rfl
    have htk : P.take (k + 1) = P.take k ++ [p] := by
      rw [List.take_add_one, ← hp, List.getD_eq_getElem?_getD, List.getElem?_eq_getElem hlt]
      rfl
    have hnp : p ∉ P.take k := fun hm => by
      have h1 := hps
      rw [← List.take_append_drop k P, List.pairwise_append] at h1
      have h2 : p ∈ P.drop k := by rw [drop_getD hlt tyPrefix.dflt, hp]; exact List.mem_cons_self
      exact irrP _ (h1.2.2 p hm p h2)
    obtain ⟨u, v, x, g1, g2, g3⟩ := e6 (D + k) (telK o0 (P.take k)) l p (by omega) hT (hpok p hpm)
    simp only [ltT hltc, ge0, Bool.and_self, cond_true, hg]
    rw [show c6 (some l, (chOf o0 p).1, ()) = _ from g1]
    simp only [Option.bind_some, Int.toNat_natCast]
    have hul : u.length < (u ++ x :: v).length := by rw [List.length_append, List.length_cons]; omega
    have hgx : List.getD (α := TL22_one) (u ++ x :: v) u.length tyL22_one.dflt = x := getD_mid u v x _
    simp only [ltT hul, ge0, Bool.and_self, cond_true, hgx, List.length_set]
    rw [wrap_succ hltc (by omega)]
    have hset : ∀ y z : TL22_one, ((u ++ x :: v).set u.length y).set u.length z = u ++ z :: v := fun y z => by rw [set_mid, set_mid]
    have hgy : ∀ y : TL22_one, List.getD (α := TL22_one) ((u ++ x :: v).set u.length y) u.length tyL22_one.dflt = y := fun y => by rw [set_mid]; exact getD_mid u v y _
    simp only [hgy, hset]
    obtain ⟨j1, j2⟩ := g3.one x (List.mem_append.2 (.inr List.mem_cons_self))
    have j2 : look p o0.2.1 = bif x.2.2.2.1 then some x.2.1 else none := by
      rw [← j2, g2]
      unfold telK
      rw [if_neg hnp]
    have hne := (hmem p).1 hpm
    have hnext : kk (((k + 1 : Nat) : Int), o, u ++ (x.1, (look p o0.1.1).getD zA, x.2.2.1, (look p o0.1.1).isSome, x.2.2.2.2) :: v, P.map (chOf o0)) = some (true, ()) := by
      refine hkk _ ⟨k + 1, _, rfl, hlt, ?_⟩ (by simp only [Int.toNat_natCast]; omega)
      refine TInv.set (T := telK o0 (P.take k)) (p := p) g3 g2 (fun q hq => ?_) ?_
      · unfold telK
        rw [htk]
        have : q ∈ P.take k ++ [p] ↔ q ∈ P.take k := by
          rw [List.mem_append, List.mem_singleton]
          exact ⟨fun h => h.elim id fun h => absurd h hq, .inl⟩
        simp only [this]
      · unfold telK
        rw [htk, if_pos (List.mem_append.2 (.inr (List.mem_singleton.2 rfl)))]
        cases look p o0.1.1 <;> rfl
    show (bif x.2.2.2.1 == (look p o0.1.1).isSome then _ else kk (((k + 1 : Nat) : Int), o, u ++ (x.1, (look p o0.1.1).getD zA, x.2.2.1, (look p o0.1.1).isSome, x.2.2.2.2) :: v, P.map (chOf o0))) = _
    rw [hnext]
    cases hc : x.2.2.2.1 with
    | false =>
      rw [hc, cond_false] at j2
      cases hl : look p o0.1.1 with
      | none => rw [hl, j2] at hne; exact absurd rfl hne
      | some a => rfl
    | true =>
      rw [hc, cond_true] at j2
      cases hl : look p o0.1.1 with
      | none => rfl
      | some a =>
        simp only [Option.isSome_some, beq_self_eq_true, cond_true, Bool.not_true, cond_false]
        have k1 := (hw.t.look_ok j2).2
        have k2 := (hw.w.look_ok hl).2
        have hch : (chOf o0 p).2.1 = a := by
          unfold chOf
          rw [hl]
          rfl
        rw [hch, e7 _ _ k1 k2]
        have hea : eqA x.2.1 a = false := by
          cases h9 : eqA x.2.1 a with
          | false => rfl
          | true => rw [eqA_iff.1 h9] at j2; rw [hl, j2] at hne; exact absurd rfl hne
        rw [hea]
        rw [hl] at hnext
        show kk (((k + 1 : Nat) : Int), o, u ++ (x.1, a, x.2.2.1, (look p o0.1.1).isSome, x.2.2.2.2) :: v, P.map (chOf o0)) = _
        rw [hl]
        exact hnext
  · simp only [ltF (show ¬ k < (P.map (chOf o0)).length by rw [hcl]; exact hlt), cond_false]
    refine hend l ?_
    have hkP : P.take k = P := List.take_of_length_le (by omega)
    rw [hkP] at hT
    have hTe : (fun q => look q o0.1.1) = telK o0 P := funext fun q => by
      unfold telK
      split
      · rfl
      · rename_i hq
        by_cases h9 : look q o0.1.1 = look q o0.2.1
        · exact h9
        · exact absurd ((hmem q).2 h9) hq
    rw [hTe]
    exact ⟨by have := hT.len; omega, hT.srt, hT.one, hT.all⟩
theorem told_b {A : List TL22_Ask} (e0 : c0 () = some ((oNew, ()), ())) (e1 : ∀ x : TL22_Ask, x.2.2.2 = true → ∃ p, c1 (x, ()) = some (p, ()) ∧ prefOk p) (e2 : ∀ a, ∃ r, c2 (a, 65001, ()) = some (r, ()) ∧ attrOk r)
    (e3 : ∀ (B : Nat) (o : DOut) (p : TPrefix) (a : TAttrs), WFo B o → prefOk p → attrOk a → ∃ (e : Int) (o2 : DOut), c3 (o, p, a, ()) = some ((e, ()), (o2, (p, (a, ())))) ∧ WFo (B + 1) o2 ∧ o2.2 = o.2)
    (e4 : ∀ (B : Nat) (o : DOut) (p : TPrefix), WFo B o → ∃ (e : Bool) (o2 : DOut), c4 (o, p, ()) = some ((e, ()), (o2, (p, ()))) ∧ WFo B o2 ∧ o2.2 = o.2)
    (e5 : ∀ (B : Nat) (o : DOut), B ≤ 300 → WFo B o → ∃ r : (List Tadjout_Change × Unit) × (DOut × Unit), c5 (o, ()) = some r ∧ r.1.1 = (pendL o).map (chOf o) ∧ r.2.1.1 = o.1 ∧ WFo B r.2.1 ∧ ∀ q, look q r.2.1.2.1 = look q o.1.1)
    (e6 : ∀ (D : Nat) (T : TPrefix → Option TAttrs) (l : List TL22_one) (p : TPrefix), D ≤ 100000 → TInv D T l → prefOk p → ∃ (u v : List TL22_one) (x : TL22_one), c6 (some l, p, ()) = some (((u ++ x :: v, ((u.length : Nat) : Int), ()), ((none : Option (List TL22_one)), p, ())) : (List TL22_one × Int × Unit) × (Option (List TL22_one) × TPrefix × Unit)) ∧ x.1 = p ∧ TInv (D + 1) T (u ++ x :: v))
    (e7 : ∀ a b, attrOk a → attrOk b → c7 (a, b, ()) = some (eqA a b, ())) (e8 : ∀ (B : Nat) (o : DOut), B ≤ 1000 → WFo B o → c8 (o, ()) = some (allL o, ()))
    (e9 : ∀ (B : Nat) (o : DOut) (p : TPrefix), WFo B o → c9 (o, p, ()) = some (((look p o.1.1).getD zA, (look p o.1.1).isSome, ()), (o, p, ()))) (e10 : c10 () = some (true, ())) :
    L22_AdjoutTold.f c0 c1 c2 c3 c4 c5 c6 c7 c8 c9 c10 FU A = some (true, ()) := by
  unfold L22_AdjoutTold.f L22_AdjoutTold.b
  rw [e0]
  show iterN (fun k0 s => L22_AdjoutTold.b0 c0 c1 c2 c3 c4 c5 c6 c7 c8 c9 c10 A (fun x0_1 t => L22_AdjoutTold.l1 c0 c1 c2 c3 c4 c5 c6 c7 c8 c9 c10 FU A x0_1 k0 FU t) k0 s) FU (0, oNew, []) = _
  refine iterN_eq (F := fun _ => some (true, ())) (fun s : Int × DOut × List TL22_one => ∃ (i : Nat) (o : DOut) (l : List TL22_one), s = ((i : Int), o, l) ∧ i ≤ 60 ∧ WFo i o ∧ TInv (i * 600) (fun q => look q o.2.1) l) (fun s => 60 - s.1.toNat) ?_ FU _ ⟨0, oNew, [], rfl, by omega, (inv_new 0).wf, by simp, List.Pairwise.nil, fun x hx => (by cases hx), fun p hp => absurd rfl hp⟩ (FU_lt (by simp only []; omega))
  rintro s kk ⟨i, o, l, rfl, hi, hw, hT⟩ hkk
  unfold L22_AdjoutTold.b0
  simp only [grd, ib, Int.toNat_natCast]
  by_cases hlt : i < A.length
  · by_cases h60 : i < 60
    · obtain ⟨x, hx⟩ : ∃ x, A.getD i tyL22_Ask.dflt = x := ⟨_, rfl⟩
      have hg : List.getD (α := TL22_Ask) A i tyL22_Ask.dflt = x := hx
      simp only [ltT hlt, ge0, Bool.and_self, cond_true, hg, decide_eq_true (show (i : Int) < 60 by omega)]
      rw [wrap_succ h60 (by omega)]
      have hlen : l.length ≤ (i + 1) * 600 := Nat.le_trans hT.len (Nat.mul_le_mul_right 600 (Nat.le_succ i))
      have go : ∀ o2 : DOut, WFo (i + 1) o2 → o2.2 = o.2 → kk (((i + 1 : Nat) : Int), o2, l) = some (true, ()) := fun o2 h1 h2 => by
        have h9 : TInv ((i + 1) * 600) (fun q => look q o2.2.1) l := by
          rw [h2]
          exact TInv.mk hlen hT.srt hT.one hT.all
        exact hkk _ ⟨i + 1, o2, l, rfl, h60, h1, h9⟩ (by simp only [Int.toNat_natCast]; omega)
      have tk : ∀ o2 : DOut, WFo (i + 1) o2 → o2.2 = o.2 → ((c5 (o2, ())).bind fun r => L22_AdjoutTold.l1 c0 c1 c2 c3 c4 c5 c6 c7 c8 c9 c10 FU A (i : Int) kk FU ((0 : Int), r.snd.fst, l, r.fst.fst)) = some (true, ()) := fun o2 h1 h2 => by
        obtain ⟨⟨⟨cc, _⟩, ⟨o3, _⟩⟩, g1, g2, g3, g4, g5⟩ := e5 (i + 1) o2 (by omega) h1
        have g2 : cc = (pendL o2).map (chOf o2) := g2
        have g3 : o3.1 = o2.1 := g3
        have g4 : WFo (i + 1) o3 := g4
        have g5 : ∀ q, look q o3.2.1 = look q o2.1.1 := g5
        rw [g1]
        simp only [Option.bind_some]
        rw [g2]
        have hD : i * 600 + 600 ≤ 100000 := by omega
        have hT2 : TInv (i * 600) (fun q => look q o2.2.1) l := by rw [h2]; exact hT
        refine told_l1 (B := i + 1) (by omega) hD h1 hT2 e6 e7 fun l' hl' => ?_
        rw [e8 (i + 1) o3 (by omega) g4]
        simp only [Option.bind_some]
        have hl3 : TInv (i * 600 + 600) (fun q => look q o3.1.1) l' := by rw [g3]; exact hl'
        have hall : allL o3 = isL l' := by
          refine sorted_eq (all_sorted g4) ?_ fun p => ?_
          · unfold isL
            exact hl3.srt.sublist (List.Sublist.map _ List.filter_sublist)
          · rw [mem_all g4]
            unfold isL
            constructor
            · intro hs
              have hs2 : look p o3.1.1 ≠ none := fun e => by rw [e] at hs; cases hs
              obtain ⟨y, hy, rfl⟩ := List.mem_map.1 (hl3.all p hs2)
              have hy1 := (hl3.one y hy).2
              refine List.mem_map.2 ⟨y, List.mem_filter.2 ⟨hy, ?_⟩, rfl⟩
              cases hc : y.2.2.2.1 with
              | true => rfl
              | false =>
                rw [hc, cond_false] at hy1
                exact absurd hy1 hs2
            · intro hm
              obtain ⟨y, hy, rfl⟩ := List.mem_map.1 hm
              obtain ⟨hy1, hy2⟩ := List.mem_filter.1 hy
              have hy3 := (hl3.one y hy1).2
              have hy2 : y.2.2.2.1 = true := hy2
              rw [hy2, cond_true] at hy3
              rw [hy3]
              rfl
        rw [hall]
        refine told_l2 hD hl3 (fun y hy hc => ?_) (fun p => e9 (i + 1) o3 p g4) e7 ?_
        · have hy3 := (hl3.one y hy).2
          rw [hc, cond_true] at hy3
          exact (g4.w.look_ok hy3).2
        · rw [wrap_succ h60 (by omega)]
          refine hkk _ ⟨i + 1, o3, l', rfl, h60, g4, ?_⟩ (by simp only [Int.toNat_natCast]; omega)
          have : (fun q => look q o3.2.1) = fun q => look q o2.1.1 := funext g5
          rw [this, show (i + 1) * 600 = i * 600 + 600 by omega]
          exact hl'
      have tl : ∀ (o2 : DOut) (b1 b2 b3 : Bool), WFo (i + 1) o2 → o2.2 = o.2 → (bif b1 then (bif b2 then (bif b3 then kk (((i + 1 : Nat) : Int), o2, l) else ((c5 (o2, ())).bind fun r => L22_AdjoutTold.l1 c0 c1 c2 c3 c4 c5 c6 c7 c8 c9 c10 FU A (i : Int) kk FU ((0 : Int), r.snd.fst, l, r.fst.fst))) else ((c5 (o2, ())).bind fun r => L22_AdjoutTold.l1 c0 c1 c2 c3 c4 c5 c6 c7 c8 c9 c10 FU A (i : Int) kk FU ((0 : Int), r.snd.fst, l, r.fst.fst))) else ((c5 (o2, ())).bind fun r => L22_AdjoutTold.l1 c0 c1 c2 c3 c4 c5 c6 c7 c8 c9 c10 FU A (i : Int) kk FU ((0 : Int), r.snd.fst, l, r.fst.fst))) = some (true, ()) := fun o2 b1 b2 b3 h1 h2 => by
        cases b1 with
        | false => exact tk o2 h1 h2
        | true =>
          cases b2 with
          | false => exact tk o2 h1 h2
          | true =>
            cases b3 with
            | false => exact tk o2 h1 h2
            | true => exact go o2 h1 h2
      have hup : WFo (i + 1) o := ⟨hw.w.mono (by omega), hw.t.mono (by omega)⟩
      obtain ⟨p, hp, hpok⟩ := e1 (x.1, x.2.1, x.2.2.1, true) rfl
      by_cases k1 : x.1 = 1
      · rw [beq_iff_eq.2 k1, cond_true]
        obtain ⟨a, ha, haok⟩ := e2 x.2.2.1
        obtain ⟨e, o2, g1, g2, g3⟩ := e3 i o p a hw hpok haok
        rw [hp]
        simp only [Option.bind_some]
        rw [ha]
        simp only [Option.bind_some]
        rw [g1]
        simp only [Option.bind_some]
        rw [show (x.1 == (2 : Int)) = false from beq_eq_false_iff_ne.2 (by omega), cond_false]
        exact tl o2 _ _ _ g2 g3
      · rw [show (x.1 == (1 : Int)) = false from beq_eq_false_iff_ne.2 k1, cond_false]
        by_cases k2 : x.1 = 2
        · rw [beq_iff_eq.2 k2, cond_true, hp]
          simp only [Option.bind_some]
          obtain ⟨e, o2, g1, g2, g3⟩ := e4 (i + 1) o p hup
          rw [g1]
          simp only [Option.bind_some]
          exact tl o2 _ _ _ g2 g3
        · rw [show (x.1 == (2 : Int)) = false from beq_eq_false_iff_ne.2 k2, cond_false]
          exact tl o _ _ _ hup rfl
    · simp only [ltT hlt, cond_true, decide_eq_false (show ¬ (i : Int) < 60 by omega), cond_false]
      rw [e10]
      rfl
  · simp only [ltF hlt, cond_false]
    rw [e10]
    rfl
end
theorem AdjoutTold_F (A : List TL22_Ask) : L22_AdjoutTold.F (A, ()) = some (true, ()) :=
  told_b (c0 := adjout_New.F) rfl (fun x hx => by
    obtain ⟨p, h1, h2, _⟩ := prefix_ok x
    exact ⟨p, h1, h2 hx⟩) (fun a => tame_ok a 65001) (fun B o p a hw hp ha => by
    obtain ⟨p0, p1, _⟩ := hp
    have := Want_F (o := o) (p := p) (a := a) p0 p1 ha.small
    cases hc : rightB p && rgB a with
    | true =>
      rw [hc, cond_true] at this
      exact ⟨_, _, this, ⟨hw.w.put ⟨p0, p1, by assumption⟩ ha, hw.t.mono (by omega)⟩, rfl⟩
    | false =>
      rw [hc, cond_false] at this
      exact ⟨_, _, this, ⟨hw.w.mono (by omega), hw.t.mono (by omega)⟩, rfl⟩) (fun B o p hw => ⟨_, _, Lack_F o p, ⟨hw.w.del p, hw.t⟩, rfl⟩)
    (fun B o hB hw => Take_ok hB hw) (fun D T l p hD h hp => TInv.at hD h hp) (fun a b ha hb => same7_F ha hb) (fun B o hB hw => All_F hB hw) (fun B o p hw => Wanted_F hw p) known_F
end BE
end
