import Derived.Test.YtdchhhedpipeiaaEFn0
set_option linter.unusedVariables false
set_option maxRecDepth 100000
open Go Go.Ev Go.Proofs
namespace BE
/-! ### SetC -/
noncomputable def SetC.E (c25 : Int × Int × Unit → Option (Int × Unit)) (c24 : (List Int) × Unit → Option (Int × Unit)) : Env := envOf Try.prog (pick [(25, ⟨[ty33, ty33], [.pure ty2], c25⟩), (24, ⟨[ty24], [.pure ty2], c24⟩)]) (pick []) (pick [])
noncomputable def SetC.C : Code := Try.f23.body.getD .skip
noncomputable def SetC.b (c25 : Int × Int × Unit → Option (Int × Unit)) (c24 : (List Int) × Unit → Option (Int × Unit)) (a0 : Int) (a1 : Int) (a2 : (List T41)) : Option ((Int × Unit) × (Int × Int × (List T41) × Unit)) :=
  bif Decidable.decide ((0 : Int) ≤ a0) && Decidable.decide (a0 < (↑(List.length a2) : Int)) then
    bif Decidable.decide ((0 : Int) ≤ a1) && Decidable.decide (a1 < (↑(List.length a2) : Int)) then
      (c25 ((List.getD a2 (Int.toNat a0) BE.ty41.dflt).fst.snd.fst, (List.getD a2 (Int.toNat a1) BE.ty41.dflt).fst.snd.fst, ())).bind fun r0 =>
      (c25 ((List.getD a2 (Int.toNat a0) BE.ty41.dflt).fst.snd.snd.fst, (List.getD a2 (Int.toNat a1) BE.ty41.dflt).fst.snd.snd.fst, ())).bind fun r1 =>
      (c24 ([r0.fst, r1.fst], ())).bind fun r2 =>
      some ((r2.fst, ()), (a0, (a1, (a2, PUnit.unit))))
    else
      none
  else
    none
theorem SetC.b_ev (c25 : Int × Int × Unit → Option (Int × Unit)) (c24 : (List Int) × Unit → Option (Int × Unit)) (fuel : Nat) (a0 : Int) (a1 : Int) (a2 : (List T41)) : evalBy (SetC.E c25 c24) fuel Try.f23 SetC.C [.pure ty2, .pure ty2, .con ty23] [.pure ty2] (a0, a1, a2, ()) =
    SetC.b c25 c24 a0 a1 a2 := by kernel_rfl
noncomputable def SetC.f (c25 : Int × Int × Unit → Option (Int × Unit)) (c24 : (List Int) × Unit → Option (Int × Unit)) (fuel : Nat) (a0 : Int) (a1 : Int) (a2 : (List T41)) : Option ((Int × Unit) × (Int × Int × (List T41) × Unit)) := SetC.b c25 c24 a0 a1 a2
theorem SetC.ev (c25 : Int × Int × Unit → Option (Int × Unit)) (c24 : (List Int) × Unit → Option (Int × Unit)) (fuel : Nat) (a0 : Int) (a1 : Int) (a2 : (List T41)) : evalBy (SetC.E c25 c24) fuel Try.f23 SetC.C [.pure ty2, .pure ty2, .con ty23] [.pure ty2] (a0, a1, a2, ()) = SetC.f c25 c24 fuel a0 a1 a2 :=
  (SetC.b_ev c25 c24 fuel a0 a1 a2)

/-! ### Or -/
noncomputable def Or.E : Env := envOf Try.prog (pick []) (pick []) (pick [(3, [(3, none), (6, none), (7, none), (8, none)])])
noncomputable def Or.C : Code := Try.f24.body.getD .skip
noncomputable def Or.mk3 (a0 : (List Int)) (s : (Int × Int × Int)) : St := { tmps := slots 18 0 [(3, (.one (.pure ty2 s.1))), (6, (.one (.pure ty24 a0))), (7, (.one (.pure ty2 s.2.1))), (8, (.one (.pure ty2 s.2.2)))], st := [], next := 0 }
noncomputable def Or.b3 (a0 : (List Int)) (k3 : (Int × Int × Int) → Option (Int × Unit)) (s : (Int × Int × Int)) : Option (Int × Unit) :=
  match s with
  | (x3_0, x3_2, x3_3) =>
  bif Decidable.decide (x3_3 < x3_2) then
    bif Decidable.decide ((0 : Int) ≤ x3_3) && Decidable.decide (x3_3 < (↑(List.length a0) : Int)) then
      bif List.getD a0 x3_3.toNat (0 : Int) != x3_0 then
        some (List.getD a0 x3_3.toNat (0 : Int), PUnit.unit)
      else
        k3 (x3_0, x3_2, Go.IntKind.i64.wrap (x3_3 + (1 : Int)))
    else
      none
  else
    some (x3_0, PUnit.unit)
theorem Or.b3_ev (fuel : Nat) (k3 : St → Option (Int × Unit)) (a0 : (List Int)) (s : (Int × Int × Int)) :
    bodyAt (Or.E) fuel 3 Or.C (endK (Or.E) [.pure ty2] Try.f24) k3 (Or.mk3 a0 s) =
    Or.b3 a0 (fun t => k3 (Or.mk3 a0 t)) s := by kernel_rfl
noncomputable def Or.l3 (fuel : Nat) (a0 : (List Int)) (n : Nat) (s : (Int × Int × Int)) : Option (Int × Unit) :=
  iterN (fun k3 s => Or.b3 a0 k3 s) n s
theorem Or.l3_ev (fuel : Nat) (a0 : (List Int)) (n : Nat) (s : (Int × Int × Int)) :
    loopAt (Or.E) fuel 3 Or.C (endK (Or.E) [.pure ty2] Try.f24) n (Or.mk3 a0 s) = Or.l3 fuel a0 n s :=
  loop_iter (fun k3 s => (Or.b3_ev fuel k3 a0 s)) n s
noncomputable def Or.b (a0 : (List Int)) (i3 : (Int × Int × Int) → Option (Int × Unit)) : Option (Int × Unit) :=
  i3 ((0 : Int), (↑(List.length a0) : Int), (0 : Int))
theorem Or.b_ev (fuel : Nat) (a0 : (List Int)) : evalBody (Or.E) fuel Try.f24 Or.C [ty24] [.pure ty2] (a0, ()) =
    Or.b a0 (fun t => loopAt (Or.E) fuel 3 Or.C (endK (Or.E) [.pure ty2] Try.f24) fuel (Or.mk3 a0 t)) := by kernel_rfl
noncomputable def Or.f (fuel : Nat) (a0 : (List Int)) : Option (Int × Unit) := Or.b a0 (fun t => Or.l3 fuel a0 fuel t)
theorem Or.ev (fuel : Nat) (a0 : (List Int)) : evalBody (Or.E) fuel Try.f24 Or.C [ty24] [.pure ty2] (a0, ()) = Or.f fuel a0 :=
  (Or.b_ev fuel a0).trans (congrArg (Or.b a0) (funext fun t => Or.l3_ev fuel a0 fuel t))

/-! ### Compare -/
noncomputable def Compare.E (c35 : Int × Unit → Option (Bool × Unit)) : Env := envOf Try.prog (pick [(35, ⟨[ty33], [.pure ty4], c35⟩)]) (pick []) (pick [])
noncomputable def Compare.C : Code := Try.f25.body.getD .skip
noncomputable def Compare.b (c35 : Int × Unit → Option (Bool × Unit)) (a0 : Int) (a1 : Int) : Option (Int × Unit) :=
  (c35 (a0, ())).bind fun r0 =>
  (c35 (a1, ())).bind fun r1 =>
  bif r0.fst then
    bif r1.fst then
      some ((0 : Int), PUnit.unit)
    else
      some ((-1 : Int), PUnit.unit)
  else
    bif r1.fst then
      some ((1 : Int), PUnit.unit)
    else
      bif Decidable.decide (a0 < a1) then
        some ((-1 : Int), PUnit.unit)
      else
        bif Decidable.decide (a0 > a1) then
          some ((1 : Int), PUnit.unit)
        else
          some ((0 : Int), PUnit.unit)
theorem Compare.b_ev (c35 : Int × Unit → Option (Bool × Unit)) (fuel : Nat) (a0 : Int) (a1 : Int) : evalBody (Compare.E c35) fuel Try.f25 Compare.C [ty33, ty33] [.pure ty2] (a0, a1, ()) =
    Compare.b c35 a0 a1 := by kernel_rfl
noncomputable def Compare.f (c35 : Int × Unit → Option (Bool × Unit)) (fuel : Nat) (a0 : Int) (a1 : Int) : Option (Int × Unit) := Compare.b c35 a0 a1
theorem Compare.ev (c35 : Int × Unit → Option (Bool × Unit)) (fuel : Nat) (a0 : Int) (a1 : Int) : evalBody (Compare.E c35) fuel Try.f25 Compare.C [ty33, ty33] [.pure ty2] (a0, a1, ()) = Compare.f c35 fuel a0 a1 :=
  (Compare.b_ev c35 fuel a0 a1)

/-! ### sift -/
noncomputable def sift.E (c36 : T41 × T41 × Int × Unit → Option (Bool × Unit)) : Env := envOf Try.prog (pick [(36, ⟨[ty41, ty41, ty2], [.pure ty4], c36⟩)]) (pick []) (pick [(3, [(0, none), (1, none), (2, none), (7, some ty2), (12, none), (13, none), (14, none)]), (6, [(0, none), (1, none), (2, none), (7, none), (9, none), (12, none), (13, none), (14, none), (18, none), (19, none), (20, none)])])
noncomputable def sift.C : Code := Try.f26.body.getD .skip
noncomputable def sift.mk3 (a0 : (List T41)) (a1 : (List Int)) (a2 : Int) (s : (Int × Int × (List Int))) : St := { tmps := slots 50 0 [(0, (.one (.pure ty23 a0))), (1, (.one (.pure ty24 a1))), (2, (.one (.pure ty2 a2))), (7, (.one (.own 0))), (12, (.one (.pure ty24 a1))), (13, (.one (.pure ty2 s.1))), (14, (.one (.pure ty2 s.2.1)))], st := [(0, (.row ty2 s.2.2))], next := 1 }
noncomputable def sift.mk6 (a0 : (List T41)) (a1 : (List Int)) (a2 : Int) (x3_4 : Int) (x3_5 : Int) (x3_6 : (List Int)) (s : (Int × Int × Int)) : St := { tmps := slots 50 0 [(0, (.one (.pure ty23 a0))), (1, (.one (.pure ty24 a1))), (2, (.one (.pure ty2 a2))), (7, (.one (.own 0))), (9, (.one (.pure ty2 s.1))), (12, (.one (.pure ty24 a1))), (13, (.one (.pure ty2 x3_4))), (14, (.one (.pure ty2 x3_5))), (18, (.one (.pure ty24 a1))), (19, (.one (.pure ty2 s.2.1))), (20, (.one (.pure ty2 s.2.2)))], st := [(0, (.row ty2 x3_6))], next := 1 }
noncomputable def sift.C3 (c36 : T41 × T41 × Int × Unit → Option (Bool × Unit)) (fuel : Nat) : Code := codeAt (sift.E c36) fuel 3 sift.C
noncomputable def sift.K3 (c36 : T41 × T41 × Int × Unit → Option (Bool × Unit)) (fuel : Nat) (k3 : St → Option (List Int × Unit)) : Ex → St → Option (List Int × Unit) := contAt (sift.E c36) fuel 3 sift.C (endK (sift.E c36) [.fresh ty2] Try.f26) k3
noncomputable def sift.b6 (c36 : T41 × T41 × Int × Unit → Option (Bool × Unit)) (a0 : (List T41)) (a1 : (List Int)) (a2 : Int) (x3_4 : Int) (x3_5 : Int) (x3_6 : (List Int)) (k3 : (Int × Int × (List Int)) → Option (List Int × Unit)) (k6 : (Int × Int × Int) → Option (List Int × Unit)) (s : (Int × Int × Int)) : Option (List Int × Unit) :=
  match s with
  | (x6_3, x6_8, x6_9) =>
  bif Decidable.decide (x6_9 < x6_8) then
    bif Decidable.decide ((0 : Int) ≤ x6_9) && Decidable.decide (x6_9 < (↑(List.length a1) : Int)) then
      bif Decidable.decide ((0 : Int) ≤ x6_3) && Decidable.decide (x6_3 < (↑(List.length a0) : Int)) then
        bif Decidable.decide ((0 : Int) ≤ List.getD a1 x6_9.toNat (0 : Int)) && Decidable.decide (List.getD a1 x6_9.toNat (0 : Int) < (↑(List.length a0) : Int)) then
          (c36 (List.getD a0 x6_3.toNat BE.ty41.dflt, List.getD a0 (Int.toNat (List.getD a1 x6_9.toNat (0 : Int))) BE.ty41.dflt, a2, ())).bind fun r0 =>
          bif r0.fst then
            k3 (x3_4, Go.IntKind.i64.wrap (x3_5 + (1 : Int)), x3_6)
          else
            k6 (x6_3, x6_8, Go.IntKind.i64.wrap (x6_9 + (1 : Int)))
        else
          none
      else
        none
    else
      none
  else
    bif Decidable.decide ((x3_6.length + (1 : Nat)) * (8 : Nat) ≤ Go.Ev.maxBytes) then
      k3 (x3_4, Go.IntKind.i64.wrap (x3_5 + (1 : Int)), x3_6 ++ [x6_3])
    else
      none
theorem sift.b6_ev (c36 : T41 × T41 × Int × Unit → Option (Bool × Unit)) (fuel : Nat) (k3 : St → Option (List Int × Unit)) (k6 : St → Option (List Int × Unit)) (a0 : (List T41)) (a1 : (List Int)) (a2 : Int) (x3_4 : Int) (x3_5 : Int) (x3_6 : (List Int)) (s : (Int × Int × Int)) :
    bodyAt (sift.E c36) fuel 6 (sift.C3 c36 fuel) (sift.K3 c36 fuel k3) k6 (sift.mk6 a0 a1 a2 x3_4 x3_5 x3_6 s) =
    sift.b6 c36 a0 a1 a2 x3_4 x3_5 x3_6 (fun t => k3 (sift.mk3 a0 a1 a2 t)) (fun t => k6 (sift.mk6 a0 a1 a2 x3_4 x3_5 x3_6 t)) s := by kernel_rfl
noncomputable def sift.l6 (c36 : T41 × T41 × Int × Unit → Option (Bool × Unit)) (fuel : Nat) (a0 : (List T41)) (a1 : (List Int)) (a2 : Int) (x3_4 : Int) (x3_5 : Int) (x3_6 : (List Int)) (k3 : (Int × Int × (List Int)) → Option (List Int × Unit)) (n : Nat) (s : (Int × Int × Int)) : Option (List Int × Unit) :=
  iterN (fun k6 s => sift.b6 c36 a0 a1 a2 x3_4 x3_5 x3_6 k3 k6 s) n s
theorem sift.l6_ev (c36 : T41 × T41 × Int × Unit → Option (Bool × Unit)) (fuel : Nat) (k3 : St → Option (List Int × Unit)) (a0 : (List T41)) (a1 : (List Int)) (a2 : Int) (x3_4 : Int) (x3_5 : Int) (x3_6 : (List Int)) (n : Nat) (s : (Int × Int × Int)) :
    loopAt (sift.E c36) fuel 6 (sift.C3 c36 fuel) (sift.K3 c36 fuel k3) n (sift.mk6 a0 a1 a2 x3_4 x3_5 x3_6 s) = sift.l6 c36 fuel a0 a1 a2 x3_4 x3_5 x3_6 (fun t => k3 (sift.mk3 a0 a1 a2 t)) n s :=
  loop_iter (fun k6 s => (sift.b6_ev c36 fuel k3 k6 a0 a1 a2 x3_4 x3_5 x3_6 s)) n s
noncomputable def sift.b3 (c36 : T41 × T41 × Int × Unit → Option (Bool × Unit)) (a0 : (List T41)) (a1 : (List Int)) (a2 : Int) (i6 : Int → Int → (List Int) → (Int × Int × Int) → Option (List Int × Unit)) (k3 : (Int × Int × (List Int)) → Option (List Int × Unit)) (s : (Int × Int × (List Int))) : Option (List Int × Unit) :=
  match s with
  | (x3_4, x3_5, x3_6) =>
  bif Decidable.decide (x3_5 < x3_4) then
    bif Decidable.decide ((0 : Int) ≤ x3_5) && Decidable.decide (x3_5 < (↑(List.length a1) : Int)) then
      i6 x3_4 x3_5 x3_6 (List.getD a1 x3_5.toNat (0 : Int), (↑(List.length a1) : Int), (0 : Int))
    else
      none
  else
    bif a2 == (7 : Int) then
      bif Decidable.decide ((↑x3_6.length : Int) > (1 : Int)) then
        bif Decidable.decide ((1 : Int) ≤ (↑x3_6.length : Int)) then
          some (List.take (1 : Nat) (List.drop (0 : Nat) x3_6), PUnit.unit)
        else
          none
      else
        some (x3_6, PUnit.unit)
    else
      some (x3_6, PUnit.unit)
theorem sift.b3_ev (c36 : T41 × T41 × Int × Unit → Option (Bool × Unit)) (fuel : Nat) (k3 : St → Option (List Int × Unit)) (a0 : (List T41)) (a1 : (List Int)) (a2 : Int) (s : (Int × Int × (List Int))) :
    bodyAt (sift.E c36) fuel 3 sift.C (endK (sift.E c36) [.fresh ty2] Try.f26) k3 (sift.mk3 a0 a1 a2 s) =
    sift.b3 c36 a0 a1 a2 (fun x3_4 x3_5 x3_6 t => loopAt (sift.E c36) fuel 6 (sift.C3 c36 fuel) (sift.K3 c36 fuel k3) fuel (sift.mk6 a0 a1 a2 x3_4 x3_5 x3_6 t)) (fun t => k3 (sift.mk3 a0 a1 a2 t)) s := by kernel_rfl
noncomputable def sift.l3 (c36 : T41 × T41 × Int × Unit → Option (Bool × Unit)) (fuel : Nat) (a0 : (List T41)) (a1 : (List Int)) (a2 : Int) (n : Nat) (s : (Int × Int × (List Int))) : Option (List Int × Unit) :=
  iterN (fun k3 s => sift.b3 c36 a0 a1 a2 (fun x3_4 x3_5 x3_6 t => sift.l6 c36 fuel a0 a1 a2 x3_4 x3_5 x3_6 k3 fuel t) k3 s) n s
theorem sift.l3_ev (c36 : T41 × T41 × Int × Unit → Option (Bool × Unit)) (fuel : Nat) (a0 : (List T41)) (a1 : (List Int)) (a2 : Int) (n : Nat) (s : (Int × Int × (List Int))) :
    loopAt (sift.E c36) fuel 3 sift.C (endK (sift.E c36) [.fresh ty2] Try.f26) n (sift.mk3 a0 a1 a2 s) = sift.l3 c36 fuel a0 a1 a2 n s :=
  loop_iter (fun k3 s => (sift.b3_ev c36 fuel k3 a0 a1 a2 s).trans (congrFun (congrFun (congrArg (sift.b3 c36 a0 a1 a2) (funext fun x3_4 => funext fun x3_5 => funext fun x3_6 => funext fun t => sift.l6_ev c36 fuel k3 a0 a1 a2 x3_4 x3_5 x3_6 fuel t)) (fun t => k3 (sift.mk3 a0 a1 a2 t))) s)) n s
noncomputable def sift.b (c36 : T41 × T41 × Int × Unit → Option (Bool × Unit)) (a0 : (List T41)) (a1 : (List Int)) (a2 : Int) (i3 : (Int × Int × (List Int)) → Option (List Int × Unit)) : Option (List Int × Unit) :=
  i3 ((↑(List.length a1) : Int), (0 : Int), [])
theorem sift.b_ev (c36 : T41 × T41 × Int × Unit → Option (Bool × Unit)) (fuel : Nat) (a0 : (List T41)) (a1 : (List Int)) (a2 : Int) : evalBody (sift.E c36) fuel Try.f26 sift.C [ty23, ty24, ty2] [.fresh ty2] (a0, a1, a2, ()) =
    sift.b c36 a0 a1 a2 (fun t => loopAt (sift.E c36) fuel 3 sift.C (endK (sift.E c36) [.fresh ty2] Try.f26) fuel (sift.mk3 a0 a1 a2 t)) := by kernel_rfl
noncomputable def sift.f (c36 : T41 × T41 × Int × Unit → Option (Bool × Unit)) (fuel : Nat) (a0 : (List T41)) (a1 : (List Int)) (a2 : Int) : Option (List Int × Unit) := sift.b c36 a0 a1 a2 (fun t => sift.l3 c36 fuel a0 a1 a2 fuel t)
theorem sift.ev (c36 : T41 × T41 × Int × Unit → Option (Bool × Unit)) (fuel : Nat) (a0 : (List T41)) (a1 : (List Int)) (a2 : Int) : evalBody (sift.E c36) fuel Try.f26 sift.C [ty23, ty24, ty2] [.fresh ty2] (a0, a1, a2, ()) = sift.f c36 fuel a0 a1 a2 :=
  (sift.b_ev c36 fuel a0 a1 a2).trans (congrArg (sift.b c36 a0 a1 a2) (funext fun t => sift.l3_ev c36 fuel a0 a1 a2 fuel t))

/-! ### Shares -/
noncomputable def Shares.E (c40 : (List Nat) × Unit → Option (List Nat × Unit)) (c41 : (List Nat) × Unit → Option (Nat × Unit)) (c42 : Nat × Int × Unit → Option (Bool × Unit)) : Env := envOf Try.prog (pick [(40, ⟨[ty65], [.fresh ty40], c40⟩), (41, ⟨[ty65], [.pure ty40], c41⟩), (42, ⟨[ty40, ty2], [.pure ty4], c42⟩)]) (pick []) (pick [(9, [(1, none), (5, none), (6, none), (7, none), (8, none), (35, none), (36, none), (37, none)]), (15, [(1, none), (5, none), (6, none), (8, none), (51, none), (52, none)]), (18, [(1, none), (5, none), (6, none), (8, none), (11, none), (51, none), (52, none), (55, none)]), (25, [(1, none), (5, none), (6, none), (7, none), (8, none), (12, none), (71, none), (72, none)]), (33, [(5, none), (8, none), (12, none), (100, none), (101, none)])])
noncomputable def Shares.C : Code := Try.f29.body.getD .skip
noncomputable def Shares.mk9 (a0 : (List Nat)) (a1 : Int) (s : (Int × Nat × Int × Int × (List Int) × (List Nat) × (List Bool))) : St := { tmps := slots 122 0 [(1, (.one (.pure ty2 s.1))), (5, (.one (.own 0))), (6, (.one (.own 1))), (7, (.one (.pure ty40 s.2.1))), (8, (.one (.own 2))), (35, (.one (.own 1))), (36, (.one (.pure ty2 s.2.2.1))), (37, (.one (.pure ty2 s.2.2.2.1)))], st := [(0, (.row ty2 s.2.2.2.2.1)), (1, (.row ty40 s.2.2.2.2.2.1)), (2, (.row ty4 s.2.2.2.2.2.2))], next := 3 }
noncomputable def Shares.mk25 (a0 : (List Nat)) (a1 : Int) (x9_0 : Int) (x9_5 : (List Nat)) (x9_6 : (List Bool)) (s : (Nat × Int × Int × Int × (List Int))) : St := { tmps := slots 122 0 [(1, (.one (.pure ty2 x9_0))), (5, (.one (.own 0))), (6, (.one (.own 1))), (7, (.one (.pure ty40 s.1))), (8, (.one (.own 2))), (12, (.one (.pure ty2 s.2.1))), (71, (.one (.pure ty2 s.2.2.1))), (72, (.one (.pure ty2 s.2.2.2.1)))], st := [(0, (.row ty2 s.2.2.2.2)), (1, (.row ty40 x9_5)), (2, (.row ty4 x9_6))], next := 3 }
noncomputable def Shares.mk33 (a0 : (List Nat)) (a1 : Int) (x9_6 : (List Bool)) (s : (Int × Int × Int × (List Int))) : St := { tmps := slots 122 0 [(5, (.one (.own 0))), (8, (.one (.own 1))), (12, (.one (.pure ty2 s.1))), (100, (.one (.pure ty2 s.2.1))), (101, (.one (.pure ty2 s.2.2.1)))], st := [(0, (.row ty2 s.2.2.2)), (1, (.row ty4 x9_6))], next := 2 }
noncomputable def Shares.mk15 (a0 : (List Nat)) (a1 : Int) (x9_0 : Int) (x9_4 : (List Int)) (x9_6 : (List Bool)) (s : (Int × Int × (List Nat))) : St := { tmps := slots 122 0 [(1, (.one (.pure ty2 x9_0))), (5, (.one (.own 0))), (6, (.one (.own 1))), (8, (.one (.own 2))), (51, (.one (.pure ty2 s.1))), (52, (.one (.pure ty2 s.2.1)))], st := [(0, (.row ty2 x9_4)), (1, (.row ty40 s.2.2)), (2, (.row ty4 x9_6))], next := 3 }
noncomputable def Shares.mk18 (a0 : (List Nat)) (a1 : Int) (x9_0 : Int) (x9_4 : (List Int)) (x9_6 : (List Bool)) (x15_2 : Int) (x15_1 : Int) (s : (Int × (List Nat))) : St := { tmps := slots 122 0 [(1, (.one (.pure ty2 x9_0))), (5, (.one (.own 0))), (6, (.one (.own 1))), (8, (.one (.own 2))), (11, (.one (.pure ty2 x15_2))), (51, (.one (.pure ty2 x15_1))), (52, (.one (.pure ty2 x15_2))), (55, (.one (.pure ty2 s.1)))], st := [(0, (.row ty2 x9_4)), (1, (.row ty40 s.2)), (2, (.row ty4 x9_6))], next := 3 }
noncomputable def Shares.C15 (c40 : (List Nat) × Unit → Option (List Nat × Unit)) (c41 : (List Nat) × Unit → Option (Nat × Unit)) (c42 : Nat × Int × Unit → Option (Bool × Unit)) (fuel : Nat) : Code := codeAt (Shares.E c40 c41 c42) fuel 15 Shares.C
noncomputable def Shares.K15 (c40 : (List Nat) × Unit → Option (List Nat × Unit)) (c41 : (List Nat) × Unit → Option (Nat × Unit)) (c42 : Nat × Int × Unit → Option (Bool × Unit)) (fuel : Nat) (k15 : St → Option (List Int × Unit)) : Ex → St → Option (List Int × Unit) := contAt (Shares.E c40 c41 c42) fuel 15 Shares.C (endK (Shares.E c40 c41 c42) [.fresh ty2] Try.f29) k15
noncomputable def Shares.b33 (c40 : (List Nat) × Unit → Option (List Nat × Unit)) (c41 : (List Nat) × Unit → Option (Nat × Unit)) (c42 : Nat × Int × Unit → Option (Bool × Unit)) (a0 : (List Nat)) (a1 : Int) (x9_6 : (List Bool)) (k33 : (Int × Int × Int × (List Int)) → Option (List Int × Unit)) (s : (Int × Int × Int × (List Int))) : Option (List Int × Unit) :=
  match s with
  | (x33_0, x33_1, x33_2, x33_3) =>
  bif Decidable.decide (x33_2 < x33_1) then
    bif Decidable.decide ((0 : Int) ≤ x33_2) && Decidable.decide (x33_2 < (↑x9_6.length : Int)) then
      bif x9_6.getD x33_2.toNat Bool.false then
        bif Decidable.decide (x33_0 > (0 : Int)) then
          bif Decidable.decide ((0 : Int) ≤ x33_2) && Decidable.decide (x33_2 < (↑x33_3.length : Int)) then
            bif Decidable.decide ((0 : Int) ≤ x33_2) && Decidable.decide (x33_2 < (↑x33_3.length : Int)) then
              k33 (Go.IntKind.i64.wrap (x33_0 - (1 : Int)), x33_1, Go.IntKind.i64.wrap (x33_2 + (1 : Int)), x33_3.set x33_2.toNat (Go.IntKind.i64.wrap (x33_3.getD x33_2.toNat (0 : Int) + (1 : Int))))
            else
              none
          else
            none
        else
          k33 (x33_0, x33_1, Go.IntKind.i64.wrap (x33_2 + (1 : Int)), x33_3)
      else
        k33 (x33_0, x33_1, Go.IntKind.i64.wrap (x33_2 + (1 : Int)), x33_3)
    else
      none
  else
    some (x33_3, PUnit.unit)
theorem Shares.b33_ev (c40 : (List Nat) × Unit → Option (List Nat × Unit)) (c41 : (List Nat) × Unit → Option (Nat × Unit)) (c42 : Nat × Int × Unit → Option (Bool × Unit)) (fuel : Nat) (k33 : St → Option (List Int × Unit)) (a0 : (List Nat)) (a1 : Int) (x9_6 : (List Bool)) (s : (Int × Int × Int × (List Int))) :
    bodyAt (Shares.E c40 c41 c42) fuel 33 Shares.C (endK (Shares.E c40 c41 c42) [.fresh ty2] Try.f29) k33 (Shares.mk33 a0 a1 x9_6 s) =
    Shares.b33 c40 c41 c42 a0 a1 x9_6 (fun t => k33 (Shares.mk33 a0 a1 x9_6 t)) s := by kernel_rfl
noncomputable def Shares.l33 (c40 : (List Nat) × Unit → Option (List Nat × Unit)) (c41 : (List Nat) × Unit → Option (Nat × Unit)) (c42 : Nat × Int × Unit → Option (Bool × Unit)) (fuel : Nat) (a0 : (List Nat)) (a1 : Int) (x9_6 : (List Bool)) (n : Nat) (s : (Int × Int × Int × (List Int))) : Option (List Int × Unit) :=
  iterN (fun k33 s => Shares.b33 c40 c41 c42 a0 a1 x9_6 k33 s) n s
theorem Shares.l33_ev (c40 : (List Nat) × Unit → Option (List Nat × Unit)) (c41 : (List Nat) × Unit → Option (Nat × Unit)) (c42 : Nat × Int × Unit → Option (Bool × Unit)) (fuel : Nat) (a0 : (List Nat)) (a1 : Int) (x9_6 : (List Bool)) (n : Nat) (s : (Int × Int × Int × (List Int))) :
    loopAt (Shares.E c40 c41 c42) fuel 33 Shares.C (endK (Shares.E c40 c41 c42) [.fresh ty2] Try.f29) n (Shares.mk33 a0 a1 x9_6 s) = Shares.l33 c40 c41 c42 fuel a0 a1 x9_6 n s :=
  loop_iter (fun k33 s => (Shares.b33_ev c40 c41 c42 fuel k33 a0 a1 x9_6 s)) n s
noncomputable def Shares.b18 (c40 : (List Nat) × Unit → Option (List Nat × Unit)) (c41 : (List Nat) × Unit → Option (Nat × Unit)) (c42 : Nat × Int × Unit → Option (Bool × Unit)) (a0 : (List Nat)) (a1 : Int) (x9_0 : Int) (x9_4 : (List Int)) (x9_6 : (List Bool)) (x15_2 : Int) (x15_1 : Int) (k15 : (Int × Int × (List Nat)) → Option (List Int × Unit)) (k18 : (Int × (List Nat)) → Option (List Int × Unit)) (s : (Int × (List Nat))) : Option (List Int × Unit) :=
  match s with
  | (x18_4, x18_6) =>
  bif Decidable.decide (x18_4 < (64 : Int)) then
    bif Decidable.decide ((0 : Int) ≤ x15_2) && Decidable.decide (x15_2 < (↑x18_6.length : Int)) then
      bif (Go.FloatKind.f64.format.div (x18_6.getD x15_2.toNat (0 : Nat)) (4611686018427387904 : Nat)).isSome then
        bif Decidable.decide ((0 : Int) ≤ x15_2) && Decidable.decide (x15_2 < (↑x18_6.length : Int)) then
          k18 (Go.IntKind.i64.wrap (x18_4 + (1 : Int)), x18_6.set x15_2.toNat ((Go.FloatKind.f64.format.div (x18_6.getD x15_2.toNat (0 : Nat)) (4611686018427387904 : Nat)).getD (0 : Nat)))
        else
          none
      else
        none
    else
      none
  else
    k15 (x15_1, Go.IntKind.i64.wrap (x15_2 + (1 : Int)), x18_6)
theorem Shares.b18_ev (c40 : (List Nat) × Unit → Option (List Nat × Unit)) (c41 : (List Nat) × Unit → Option (Nat × Unit)) (c42 : Nat × Int × Unit → Option (Bool × Unit)) (fuel : Nat) (k15 : St → Option (List Int × Unit)) (k18 : St → Option (List Int × Unit)) (a0 : (List Nat)) (a1 : Int) (x9_0 : Int) (x9_4 : (List Int)) (x9_6 : (List Bool)) (x15_2 : Int) (x15_1 : Int) (s : (Int × (List Nat))) :
    bodyAt (Shares.E c40 c41 c42) fuel 18 (Shares.C15 c40 c41 c42 fuel) (Shares.K15 c40 c41 c42 fuel k15) k18 (Shares.mk18 a0 a1 x9_0 x9_4 x9_6 x15_2 x15_1 s) =
    Shares.b18 c40 c41 c42 a0 a1 x9_0 x9_4 x9_6 x15_2 x15_1 (fun t => k15 (Shares.mk15 a0 a1 x9_0 x9_4 x9_6 t)) (fun t => k18 (Shares.mk18 a0 a1 x9_0 x9_4 x9_6 x15_2 x15_1 t)) s := by kernel_rfl
noncomputable def Shares.l18 (c40 : (List Nat) × Unit → Option (List Nat × Unit)) (c41 : (List Nat) × Unit → Option (Nat × Unit)) (c42 : Nat × Int × Unit → Option (Bool × Unit)) (fuel : Nat) (a0 : (List Nat)) (a1 : Int) (x9_0 : Int) (x9_4 : (List Int)) (x9_6 : (List Bool)) (x15_2 : Int) (x15_1 : Int) (k15 : (Int × Int × (List Nat)) → Option (List Int × Unit)) (n : Nat) (s : (Int × (List Nat))) : Option (List Int × Unit) :=
  iterN (fun k18 s => Shares.b18 c40 c41 c42 a0 a1 x9_0 x9_4 x9_6 x15_2 x15_1 k15 k18 s) n s
theorem Shares.l18_ev (c40 : (List Nat) × Unit → Option (List Nat × Unit)) (c41 : (List Nat) × Unit → Option (Nat × Unit)) (c42 : Nat × Int × Unit → Option (Bool × Unit)) (fuel : Nat) (k15 : St → Option (List Int × Unit)) (a0 : (List Nat)) (a1 : Int) (x9_0 : Int) (x9_4 : (List Int)) (x9_6 : (List Bool)) (x15_2 : Int) (x15_1 : Int) (n : Nat) (s : (Int × (List Nat))) :
    loopAt (Shares.E c40 c41 c42) fuel 18 (Shares.C15 c40 c41 c42 fuel) (Shares.K15 c40 c41 c42 fuel k15) n (Shares.mk18 a0 a1 x9_0 x9_4 x9_6 x15_2 x15_1 s) = Shares.l18 c40 c41 c42 fuel a0 a1 x9_0 x9_4 x9_6 x15_2 x15_1 (fun t => k15 (Shares.mk15 a0 a1 x9_0 x9_4 x9_6 t)) n s :=
  loop_iter (fun k18 s => (Shares.b18_ev c40 c41 c42 fuel k15 k18 a0 a1 x9_0 x9_4 x9_6 x15_2 x15_1 s)) n s
noncomputable def Shares.b25 (c40 : (List Nat) × Unit → Option (List Nat × Unit)) (c41 : (List Nat) × Unit → Option (Nat × Unit)) (c42 : Nat × Int × Unit → Option (Bool × Unit)) (a0 : (List Nat)) (a1 : Int) (x9_0 : Int) (x9_5 : (List Nat)) (x9_6 : (List Bool)) (i33 : (List Bool) → (Int × Int × Int × (List Int)) → Option (List Int × Unit)) (k25 : (Nat × Int × Int × Int × (List Int)) → Option (List Int × Unit)) (s : (Nat × Int × Int × Int × (List Int))) : Option (List Int × Unit) :=
  match s with
  | (x25_1, x25_2, x25_3, x25_4, x25_5) =>
  bif Decidable.decide (x25_4 < x25_3) then
    bif Decidable.decide ((0 : Int) ≤ x25_4) && Decidable.decide (x25_4 < (↑x9_5.length : Int)) then
      bif (Go.FloatKind.f64.format.div (x9_5.getD x25_4.toNat (0 : Nat)) x25_1).isSome then
        bif (Go.FloatKind.f64.format.mul ((Go.FloatKind.f64.format.div (x9_5.getD x25_4.toNat (0 : Nat)) x25_1).getD (0 : Nat)) (Go.FloatKind.f64.nearest x9_0)).isSome then
          bif Go.Ev.convE.match_1 (fun (x : Option Int) => Bool) (Ieee.Datum.toInt Ieee.Toward.zero (Go.FloatKind.f64.decode ((Go.FloatKind.f64.format.mul ((Go.FloatKind.f64.format.div (x9_5.getD x25_4.toNat (0 : Nat)) x25_1).getD (0 : Nat)) (Go.FloatKind.f64.nearest x9_0)).getD (0 : Nat)))) (fun (n : Int) => Decidable.decide (Go.IntKind.i64.min ≤ n) && Decidable.decide (n ≤ Go.IntKind.i64.max)) fun (_ : Unit) => Bool.false then
            bif Decidable.decide ((0 : Int) ≤ x25_4) && Decidable.decide (x25_4 < (↑x25_5.length : Int)) then
              bif Decidable.decide ((0 : Int) ≤ x25_4) && Decidable.decide (x25_4 < (↑(x25_5.set x25_4.toNat (if x9_0 < (Ieee.Datum.toInt Ieee.Toward.zero (Go.FloatKind.f64.decode ((Go.FloatKind.f64.format.mul ((Go.FloatKind.f64.format.div (x9_5.getD x25_4.toNat (0 : Nat)) x25_1).getD (0 : Nat)) (Go.FloatKind.f64.nearest x9_0)).getD (0 : Nat)))).getD (0 : Int) then x9_0 else (Ieee.Datum.toInt Ieee.Toward.zero (Go.FloatKind.f64.decode ((Go.FloatKind.f64.format.mul ((Go.FloatKind.f64.format.div (x9_5.getD x25_4.toNat (0 : Nat)) x25_1).getD (0 : Nat)) (Go.FloatKind.f64.nearest x9_0)).getD (0 : Nat)))).getD (0 : Int))).length : Int)) then
                k25 (x25_1, Go.IntKind.i64.wrap (x25_2 - (x25_5.set x25_4.toNat (if x9_0 < (Ieee.Datum.toInt Ieee.Toward.zero (Go.FloatKind.f64.decode ((Go.FloatKind.f64.format.mul ((Go.FloatKind.f64.format.div (x9_5.getD x25_4.toNat (0 : Nat)) x25_1).getD (0 : Nat)) (Go.FloatKind.f64.nearest x9_0)).getD (0 : Nat)))).getD (0 : Int) then x9_0 else (Ieee.Datum.toInt Ieee.Toward.zero (Go.FloatKind.f64.decode ((Go.FloatKind.f64.format.mul ((Go.FloatKind.f64.format.div (x9_5.getD x25_4.toNat (0 : Nat)) x25_1).getD (0 : Nat)) (Go.FloatKind.f64.nearest x9_0)).getD (0 : Nat)))).getD (0 : Int))).getD x25_4.toNat (0 : Int)), x25_3, Go.IntKind.i64.wrap (x25_4 + (1 : Int)), x25_5.set x25_4.toNat (if x9_0 < (Ieee.Datum.toInt Ieee.Toward.zero (Go.FloatKind.f64.decode ((Go.FloatKind.f64.format.mul ((Go.FloatKind.f64.format.div (x9_5.getD x25_4.toNat (0 : Nat)) x25_1).getD (0 : Nat)) (Go.FloatKind.f64.nearest x9_0)).getD (0 : Nat)))).getD (0 : Int) then x9_0 else (Ieee.Datum.toInt Ieee.Toward.zero (Go.FloatKind.f64.decode ((Go.FloatKind.f64.format.mul ((Go.FloatKind.f64.format.div (x9_5.getD x25_4.toNat (0 : Nat)) x25_1).getD (0 : Nat)) (Go.FloatKind.f64.nearest x9_0)).getD (0 : Nat)))).getD (0 : Int)))
              else
                none
            else
              none
          else
            none
        else
          none
      else
        none
    else
      none
  else
    i33 x9_6 (x25_2, (↑x25_5.length : Int), (0 : Int), x25_5)
theorem Shares.b25_ev (c40 : (List Nat) × Unit → Option (List Nat × Unit)) (c41 : (List Nat) × Unit → Option (Nat × Unit)) (c42 : Nat × Int × Unit → Option (Bool × Unit)) (fuel : Nat) (k25 : St → Option (List Int × Unit)) (a0 : (List Nat)) (a1 : Int) (x9_0 : Int) (x9_5 : (List Nat)) (x9_6 : (List Bool)) (s : (Nat × Int × Int × Int × (List Int))) :
    bodyAt (Shares.E c40 c41 c42) fuel 25 Shares.C (endK (Shares.E c40 c41 c42) [.fresh ty2] Try.f29) k25 (Shares.mk25 a0 a1 x9_0 x9_5 x9_6 s) =
    Shares.b25 c40 c41 c42 a0 a1 x9_0 x9_5 x9_6 (fun x9_6 t => loopAt (Shares.E c40 c41 c42) fuel 33 Shares.C (endK (Shares.E c40 c41 c42) [.fresh ty2] Try.f29) fuel (Shares.mk33 a0 a1 x9_6 t)) (fun t => k25 (Shares.mk25 a0 a1 x9_0 x9_5 x9_6 t)) s := by kernel_rfl
noncomputable def Shares.l25 (c40 : (List Nat) × Unit → Option (List Nat × Unit)) (c41 : (List Nat) × Unit → Option (Nat × Unit)) (c42 : Nat × Int × Unit → Option (Bool × Unit)) (fuel : Nat) (a0 : (List Nat)) (a1 : Int) (x9_0 : Int) (x9_5 : (List Nat)) (x9_6 : (List Bool)) (n : Nat) (s : (Nat × Int × Int × Int × (List Int))) : Option (List Int × Unit) :=
  iterN (fun k25 s => Shares.b25 c40 c41 c42 a0 a1 x9_0 x9_5 x9_6 (fun x9_6 t => Shares.l33 c40 c41 c42 fuel a0 a1 x9_6 fuel t) k25 s) n s
theorem Shares.l25_ev (c40 : (List Nat) × Unit → Option (List Nat × Unit)) (c41 : (List Nat) × Unit → Option (Nat × Unit)) (c42 : Nat × Int × Unit → Option (Bool × Unit)) (fuel : Nat) (a0 : (List Nat)) (a1 : Int) (x9_0 : Int) (x9_5 : (List Nat)) (x9_6 : (List Bool)) (n : Nat) (s : (Nat × Int × Int × Int × (List Int))) :
    loopAt (Shares.E c40 c41 c42) fuel 25 Shares.C (endK (Shares.E c40 c41 c42) [.fresh ty2] Try.f29) n (Shares.mk25 a0 a1 x9_0 x9_5 x9_6 s) = Shares.l25 c40 c41 c42 fuel a0 a1 x9_0 x9_5 x9_6 n s :=
  loop_iter (fun k25 s => (Shares.b25_ev c40 c41 c42 fuel k25 a0 a1 x9_0 x9_5 x9_6 s).trans (congrFun (congrFun (congrArg (Shares.b25 c40 c41 c42 a0 a1 x9_0 x9_5 x9_6) (funext fun x9_6 => funext fun t => Shares.l33_ev c40 c41 c42 fuel a0 a1 x9_6 fuel t)) (fun t => k25 (Shares.mk25 a0 a1 x9_0 x9_5 x9_6 t))) s)) n s
noncomputable def Shares.b15 (c40 : (List Nat) × Unit → Option (List Nat × Unit)) (c41 : (List Nat) × Unit → Option (Nat × Unit)) (c42 : Nat × Int × Unit → Option (Bool × Unit)) (a0 : (List Nat)) (a1 : Int) (x9_0 : Int) (x9_4 : (List Int)) (x9_6 : (List Bool)) (i25 : Int → (List Nat) → (List Bool) → (Nat × Int × Int × Int × (List Int)) → Option (List Int × Unit)) (i18 : Int → Int → (Int × (List Nat)) → Option (List Int × Unit)) (k15 : (Int × Int × (List Nat)) → Option (List Int × Unit)) (s : (Int × Int × (List Nat))) : Option (List Int × Unit) :=
  match s with
  | (x15_1, x15_2, x15_4) =>
  bif Decidable.decide (x15_2 < x15_1) then
    i18 x15_2 x15_1 ((0 : Int), x15_4)
  else
    (c41 (x15_4, ())).bind fun r3 =>
    i25 x9_0 x15_4 x9_6 (r3.fst, x9_0, (↑x15_4.length : Int), (0 : Int), x9_4)
theorem Shares.b15_ev (c40 : (List Nat) × Unit → Option (List Nat × Unit)) (c41 : (List Nat) × Unit → Option (Nat × Unit)) (c42 : Nat × Int × Unit → Option (Bool × Unit)) (fuel : Nat) (k15 : St → Option (List Int × Unit)) (a0 : (List Nat)) (a1 : Int) (x9_0 : Int) (x9_4 : (List Int)) (x9_6 : (List Bool)) (s : (Int × Int × (List Nat))) :
    bodyAt (Shares.E c40 c41 c42) fuel 15 Shares.C (endK (Shares.E c40 c41 c42) [.fresh ty2] Try.f29) k15 (Shares.mk15 a0 a1 x9_0 x9_4 x9_6 s) =
    Shares.b15 c40 c41 c42 a0 a1 x9_0 x9_4 x9_6 (fun x9_0 x9_5 x9_6 t => loopAt (Shares.E c40 c41 c42) fuel 25 Shares.C (endK (Shares.E c40 c41 c42) [.fresh ty2] Try.f29) fuel (Shares.mk25 a0 a1 x9_0 x9_5 x9_6 t)) (fun x15_2 x15_1 t => loopAt (Shares.E c40 c41 c42) fuel 18 (Shares.C15 c40 c41 c42 fuel) (Shares.K15 c40 c41 c42 fuel k15) fuel (Shares.mk18 a0 a1 x9_0 x9_4 x9_6 x15_2 x15_1 t)) (fun t => k15 (Shares.mk15 a0 a1 x9_0 x9_4 x9_6 t)) s := by kernel_rfl
noncomputable def Shares.l15 (c40 : (List Nat) × Unit → Option (List Nat × Unit)) (c41 : (List Nat) × Unit → Option (Nat × Unit)) (c42 : Nat × Int × Unit → Option (Bool × Unit)) (fuel : Nat) (a0 : (List Nat)) (a1 : Int) (x9_0 : Int) (x9_4 : (List Int)) (x9_6 : (List Bool)) (n : Nat) (s : (Int × Int × (List Nat))) : Option (List Int × Unit) :=
  iterN (fun k15 s => Shares.b15 c40 c41 c42 a0 a1 x9_0 x9_4 x9_6 (fun x9_0 x9_5 x9_6 t => Shares.l25 c40 c41 c42 fuel a0 a1 x9_0 x9_5 x9_6 fuel t) (fun x15_2 x15_1 t => Shares.l18 c40 c41 c42 fuel a0 a1 x9_0 x9_4 x9_6 x15_2 x15_1 k15 fuel t) k15 s) n s
theorem Shares.l15_ev (c40 : (List Nat) × Unit → Option (List Nat × Unit)) (c41 : (List Nat) × Unit → Option (Nat × Unit)) (c42 : Nat × Int × Unit → Option (Bool × Unit)) (fuel : Nat) (a0 : (List Nat)) (a1 : Int) (x9_0 : Int) (x9_4 : (List Int)) (x9_6 : (List Bool)) (n : Nat) (s : (Int × Int × (List Nat))) :
    loopAt (Shares.E c40 c41 c42) fuel 15 Shares.C (endK (Shares.E c40 c41 c42) [.fresh ty2] Try.f29) n (Shares.mk15 a0 a1 x9_0 x9_4 x9_6 s) = Shares.l15 c40 c41 c42 fuel a0 a1 x9_0 x9_4 x9_6 n s :=
  loop_iter (fun k15 s => (Shares.b15_ev c40 c41 c42 fuel k15 a0 a1 x9_0 x9_4 x9_6 s).trans (congrFun (congrFun (congr (congrArg (Shares.b15 c40 c41 c42 a0 a1 x9_0 x9_4 x9_6) (funext fun x9_0 => funext fun x9_5 => funext fun x9_6 => funext fun t => Shares.l25_ev c40 c41 c42 fuel a0 a1 x9_0 x9_5 x9_6 fuel t)) (funext fun x15_2 => funext fun x15_1 => funext fun t => Shares.l18_ev c40 c41 c42 fuel k15 a0 a1 x9_0 x9_4 x9_6 x15_2 x15_1 fuel t)) (fun t => k15 (Shares.mk15 a0 a1 x9_0 x9_4 x9_6 t))) s)) n s
noncomputable def Shares.b9 (c40 : (List Nat) × Unit → Option (List Nat × Unit)) (c41 : (List Nat) × Unit → Option (Nat × Unit)) (c42 : Nat × Int × Unit → Option (Bool × Unit)) (a0 : (List Nat)) (a1 : Int) (i25 : Int → (List Nat) → (List Bool) → (Nat × Int × Int × Int × (List Int)) → Option (List Int × Unit)) (i15 : Int → (List Int) → (List Bool) → (Int × Int × (List Nat)) → Option (List Int × Unit)) (k9 : (Int × Nat × Int × Int × (List Int) × (List Nat) × (List Bool)) → Option (List Int × Unit)) (s : (Int × Nat × Int × Int × (List Int) × (List Nat) × (List Bool))) : Option (List Int × Unit) :=
  match s with
  | (x9_0, x9_1, x9_2, x9_3, x9_4, x9_5, x9_6) =>
  bif Decidable.decide (x9_3 < x9_2) then
    bif Decidable.decide ((0 : Int) ≤ x9_3) && Decidable.decide (x9_3 < (↑x9_5.length : Int)) then
      bif Decidable.decide ((0 : Int) ≤ x9_3) && Decidable.decide (x9_3 < (↑x9_6.length : Int)) then
        k9 (x9_0, x9_1, x9_2, Go.IntKind.i64.wrap (x9_3 + (1 : Int)), x9_4, x9_5, x9_6.set x9_3.toNat (Go.FloatKind.f64.format.order (x9_5.getD x9_3.toNat (0 : Nat)) (0 : Nat) == Option.some Ordering.gt))
      else
        none
    else
      none
  else
    (c42 (x9_1, (1 : Int), ())).bind fun r2 =>
    bif r2.fst then
      i15 x9_0 x9_4 x9_6 ((↑x9_5.length : Int), (0 : Int), x9_5)
    else
      i25 x9_0 x9_5 x9_6 (x9_1, x9_0, (↑x9_5.length : Int), (0 : Int), x9_4)
theorem Shares.b9_ev (c40 : (List Nat) × Unit → Option (List Nat × Unit)) (c41 : (List Nat) × Unit → Option (Nat × Unit)) (c42 : Nat × Int × Unit → Option (Bool × Unit)) (fuel : Nat) (k9 : St → Option (List Int × Unit)) (a0 : (List Nat)) (a1 : Int) (s : (Int × Nat × Int × Int × (List Int) × (List Nat) × (List Bool))) :
    bodyAt (Shares.E c40 c41 c42) fuel 9 Shares.C (endK (Shares.E c40 c41 c42) [.fresh ty2] Try.f29) k9 (Shares.mk9 a0 a1 s) =
    Shares.b9 c40 c41 c42 a0 a1 (fun x9_0 x9_5 x9_6 t => loopAt (Shares.E c40 c41 c42) fuel 25 Shares.C (endK (Shares.E c40 c41 c42) [.fresh ty2] Try.f29) fuel (Shares.mk25 a0 a1 x9_0 x9_5 x9_6 t)) (fun x9_0 x9_4 x9_6 t => loopAt (Shares.E c40 c41 c42) fuel 15 Shares.C (endK (Shares.E c40 c41 c42) [.fresh ty2] Try.f29) fuel (Shares.mk15 a0 a1 x9_0 x9_4 x9_6 t)) (fun t => k9 (Shares.mk9 a0 a1 t)) s := by kernel_rfl
noncomputable def Shares.l9 (c40 : (List Nat) × Unit → Option (List Nat × Unit)) (c41 : (List Nat) × Unit → Option (Nat × Unit)) (c42 : Nat × Int × Unit → Option (Bool × Unit)) (fuel : Nat) (a0 : (List Nat)) (a1 : Int) (n : Nat) (s : (Int × Nat × Int × Int × (List Int) × (List Nat) × (List Bool))) : Option (List Int × Unit) :=
  iterN (fun k9 s => Shares.b9 c40 c41 c42 a0 a1 (fun x9_0 x9_5 x9_6 t => Shares.l25 c40 c41 c42 fuel a0 a1 x9_0 x9_5 x9_6 fuel t) (fun x9_0 x9_4 x9_6 t => Shares.l15 c40 c41 c42 fuel a0 a1 x9_0 x9_4 x9_6 fuel t) k9 s) n s
theorem Shares.l9_ev (c40 : (List Nat) × Unit → Option (List Nat × Unit)) (c41 : (List Nat) × Unit → Option (Nat × Unit)) (c42 : Nat × Int × Unit → Option (Bool × Unit)) (fuel : Nat) (a0 : (List Nat)) (a1 : Int) (n : Nat) (s : (Int × Nat × Int × Int × (List Int) × (List Nat) × (List Bool))) :
    loopAt (Shares.E c40 c41 c42) fuel 9 Shares.C (endK (Shares.E c40 c41 c42) [.fresh ty2] Try.f29) n (Shares.mk9 a0 a1 s) = Shares.l9 c40 c41 c42 fuel a0 a1 n s :=
  loop_iter (fun k9 s => (Shares.b9_ev c40 c41 c42 fuel k9 a0 a1 s).trans (congrFun (congrFun (congr (congrArg (Shares.b9 c40 c41 c42 a0 a1) (funext fun x9_0 => funext fun x9_5 => funext fun x9_6 => funext fun t => Shares.l25_ev c40 c41 c42 fuel a0 a1 x9_0 x9_5 x9_6 fuel t)) (funext fun x9_0 => funext fun x9_4 => funext fun x9_6 => funext fun t => Shares.l15_ev c40 c41 c42 fuel a0 a1 x9_0 x9_4 x9_6 fuel t)) (fun t => k9 (Shares.mk9 a0 a1 t))) s)) n s
noncomputable def Shares.b (c40 : (List Nat) × Unit → Option (List Nat × Unit)) (c41 : (List Nat) × Unit → Option (Nat × Unit)) (c42 : Nat × Int × Unit → Option (Bool × Unit)) (a0 : (List Nat)) (a1 : Int) (i9 : (Int × Nat × Int × Int × (List Int) × (List Nat) × (List Bool)) → Option (List Int × Unit)) : Option (List Int × Unit) :=
  bif Decidable.decide ((0 : Int) ≤ (↑(List.length a0) : Int)) && Decidable.decide ((↑(List.length a0) : Int) ≤ (↑(List.length a0) : Int)) && Decidable.decide ((↑(List.length a0) : Int) * (↑(8 : Nat) : Int) ≤ (↑Go.Ev.maxBytes : Int)) && Decidable.decide ((↑(List.length a0) : Int) ≤ (9223372036854775807 : Int)) then
    (c40 (a0, ())).bind fun r0 =>
    (c41 (r0.fst, ())).bind fun r1 =>
    bif Decidable.decide ((if (1000 : Int) < a1 then (1000 : Int) else a1) < (1 : Int)) then
      some (List.replicate (↑(List.length a0) : Int).toNat (0 : Int), PUnit.unit)
    else
      bif Go.FloatKind.f64.format.order r1.fst (0 : Nat) == Option.some Ordering.eq then
        some (List.replicate (↑(List.length a0) : Int).toNat (0 : Int), PUnit.unit)
      else
        bif Decidable.decide ((0 : Int) ≤ (↑(List.length r0.fst) : Int)) && Decidable.decide ((↑(List.length r0.fst) : Int) ≤ (↑(List.length r0.fst) : Int)) && Decidable.decide ((↑(List.length r0.fst) : Int) * (↑(1 : Nat) : Int) ≤ (↑Go.Ev.maxBytes : Int)) && Decidable.decide ((↑(List.length r0.fst) : Int) ≤ (9223372036854775807 : Int)) then
          i9 (if (1000 : Int) < a1 then (1000 : Int) else a1, r1.fst, (↑(List.length r0.fst) : Int), (0 : Int), List.replicate (↑(List.length a0) : Int).toNat (0 : Int), r0.fst, List.replicate (↑(List.length r0.fst) : Int).toNat Bool.false)
        else
          none
  else
    none
theorem Shares.b_ev (c40 : (List Nat) × Unit → Option (List Nat × Unit)) (c41 : (List Nat) × Unit → Option (Nat × Unit)) (c42 : Nat × Int × Unit → Option (Bool × Unit)) (fuel : Nat) (a0 : (List Nat)) (a1 : Int) : evalBody (Shares.E c40 c41 c42) fuel Try.f29 Shares.C [ty65, ty2] [.fresh ty2] (a0, a1, ()) =
    Shares.b c40 c41 c42 a0 a1 (fun t => loopAt (Shares.E c40 c41 c42) fuel 9 Shares.C (endK (Shares.E c40 c41 c42) [.fresh ty2] Try.f29) fuel (Shares.mk9 a0 a1 t)) := by kernel_rfl
noncomputable def Shares.f (c40 : (List Nat) × Unit → Option (List Nat × Unit)) (c41 : (List Nat) × Unit → Option (Nat × Unit)) (c42 : Nat × Int × Unit → Option (Bool × Unit)) (fuel : Nat) (a0 : (List Nat)) (a1 : Int) : Option (List Int × Unit) := Shares.b c40 c41 c42 a0 a1 (fun t => Shares.l9 c40 c41 c42 fuel a0 a1 fuel t)
theorem Shares.ev (c40 : (List Nat) × Unit → Option (List Nat × Unit)) (c41 : (List Nat) × Unit → Option (Nat × Unit)) (c42 : Nat × Int × Unit → Option (Bool × Unit)) (fuel : Nat) (a0 : (List Nat)) (a1 : Int) : evalBody (Shares.E c40 c41 c42) fuel Try.f29 Shares.C [ty65, ty2] [.fresh ty2] (a0, a1, ()) = Shares.f c40 c41 c42 fuel a0 a1 :=
  (Shares.b_ev c40 c41 c42 fuel a0 a1).trans (congrArg (Shares.b c40 c41 c42 a0 a1) (funext fun t => Shares.l9_ev c40 c41 c42 fuel a0 a1 fuel t))

/-! ### rSet -/
noncomputable def rSet.E (c43 : (List T41) × Int × Unit → Option (List Int × Unit)) : Env := envOf Try.prog (pick [(43, ⟨[ty23, ty2], [.fresh ty2], c43⟩)]) (pick []) (pick [(6, [(0, none), (2, none), (7, none), (8, some ty2), (9, none)]), (10, [(0, none), (2, none), (7, none), (8, none), (9, none), (10, none), (11, none)])])
noncomputable def rSet.C : Code := Try.f30.body.getD .skip
noncomputable def rSet.mk6 (a0 : (List T41)) (a1 : (List Int)) (a2 : Int) (s : (Int × (List Int) × (List Int))) : St := { tmps := slots 113 0 [(0, (.one (.pure ty23 a0))), (2, (.one (.pure ty2 a2))), (7, (.one (.own 0))), (8, (.one (.own 1))), (9, (.one (.pure ty2 s.1)))], st := [(0, (.row ty2 s.2.1)), (1, (.row ty2 s.2.2))], next := 2 }
noncomputable def rSet.mk10 (a0 : (List T41)) (a1 : (List Int)) (a2 : Int) (x6_2 : Int) (x6_3 : (List Int)) (x6_4 : (List Int)) (s : (Int × Int × Int × Int × Bool × Int × (List T71) × Int × Bool × Int × Bool × Int × Bool × (List Int))) : St := { tmps := slots 113 0 [(0, (.one (.pure ty23 a0))), (2, (.one (.pure ty2 a2))), (7, (.one (.own 0))), (8, (.one (.own 1))), (9, (.one (.pure ty2 x6_2))), (10, (.one (.ref 2 0 0 0))), (11, (.one (.pure ty2 s.1)))], st := [(0, (.row ty2 x6_3)), (1, (.row ty2 x6_4)), (2, (.cells [(.pure ty2 s.2.1), (.pure ty33 s.2.2.1), (.pure ty33 s.2.2.2.1), (.pure ty4 s.2.2.2.2.1), (.pure ty2 s.2.2.2.2.2.1), (.pure ty34 s.2.2.2.2.2.2.1), (.pure ty33 s.2.2.2.2.2.2.2.1), (.pure ty4 s.2.2.2.2.2.2.2.2.1), (.pure ty33 s.2.2.2.2.2.2.2.2.2.1), (.pure ty4 s.2.2.2.2.2.2.2.2.2.2.1), (.pure ty33 s.2.2.2.2.2.2.2.2.2.2.2.1), (.pure ty4 s.2.2.2.2.2.2.2.2.2.2.2.2.1), (.pure ty35 s.2.2.2.2.2.2.2.2.2.2.2.2.2)]))], next := 3 }
noncomputable def rSet.C6 (c43 : (List T41) × Int × Unit → Option (List Int × Unit)) (fuel : Nat) : Code := codeAt (rSet.E c43) fuel 6 rSet.C
noncomputable def rSet.K6 (c43 : (List T41) × Int × Unit → Option (List Int × Unit)) (fuel : Nat) (k6 : St → Option (List Int × Unit)) : Ex → St → Option (List Int × Unit) := contAt (rSet.E c43) fuel 6 rSet.C (endK (rSet.E c43) [.fresh ty2] Try.f30) k6
noncomputable def rSet.b10 (c43 : (List T41) × Int × Unit → Option (List Int × Unit)) (a0 : (List T41)) (a1 : (List Int)) (a2 : Int) (x6_2 : Int) (x6_3 : (List Int)) (x6_4 : (List Int)) (k6 : (Int × (List Int) × (List Int)) → Option (List Int × Unit)) (k10 : (Int × Int × Int × Int × Bool × Int × (List T71) × Int × Bool × Int × Bool × Int × Bool × (List Int)) → Option (List Int × Unit)) (s : (Int × Int × Int × Int × Bool × Int × (List T71) × Int × Bool × Int × Bool × Int × Bool × (List Int))) : Option (List Int × Unit) :=
  match s with
  | (x10_3, x10_6, x10_7, x10_8, x10_9, x10_10, x10_11, x10_12, x10_13, x10_14, x10_15, x10_16, x10_17, x10_18) =>
  bif Decidable.decide (x10_3 < (↑x6_4.length : Int)) then
    bif Decidable.decide ((0 : Int) ≤ x10_3) && Decidable.decide (x10_3 < (↑x6_4.length : Int)) then
      bif Decidable.decide ((0 : Int) ≤ x6_4.getD x10_3.toNat (0 : Int)) && Decidable.decide (x6_4.getD x10_3.toNat (0 : Int) < (↑(List.length a0) : Int)) then
        bif Decidable.decide (x10_7 < (List.getD a0 (Int.toNat (x6_4.getD x10_3.toNat (0 : Int))) BE.ty41.dflt).fst.snd.fst) then
          bif Decidable.decide ((0 : Int) ≤ x10_3) && Decidable.decide (x10_3 ≤ (↑x6_4.length : Int)) then
            bif Decidable.decide (((0 : Nat) + (List.take (x10_3.toNat - (0 : Nat)) (List.drop (0 : Nat) x6_4)).length) * (8 : Nat) ≤ Go.Ev.maxBytes) then
              bif Decidable.decide ((0 : Int) ≤ x6_2) && Decidable.decide (x6_2 < (↑x6_3.length : Int)) then
                bif Decidable.decide ((([] ++ List.take (x10_3.toNat - (0 : Nat)) (List.drop (0 : Nat) x6_4)).length + (1 : Nat)) * (8 : Nat) ≤ Go.Ev.maxBytes) then
                  bif Decidable.decide ((0 : Int) ≤ x10_3) && Decidable.decide (x10_3 ≤ (↑x6_4.length : Int)) && Decidable.decide ((↑x6_4.length : Int) ≤ (↑x6_4.length : Int)) then
                    bif Decidable.decide ((([] ++ List.take (x10_3.toNat - (0 : Nat)) (List.drop (0 : Nat) x6_4) ++ [x6_3.getD x6_2.toNat (0 : Int)]).length + (List.take ((↑x6_4.length : Int).toNat - x10_3.toNat) (List.drop x10_3.toNat x6_4)).length) * (8 : Nat) ≤ Go.Ev.maxBytes) then
                      k6 (Go.IntKind.i64.wrap (x6_2 + (1 : Int)), x6_3, [] ++ List.take (x10_3.toNat - (0 : Nat)) (List.drop (0 : Nat) x6_4) ++ [x6_3.getD x6_2.toNat (0 : Int)] ++ List.take ((↑x6_4.length : Int).toNat - x10_3.toNat) (List.drop x10_3.toNat x6_4))
                    else
                      none
                  else
                    none
                else
                  none
              else
                none
            else
              none
          else
            none
        else
          bif Decidable.decide ((0 : Int) ≤ x10_3) && Decidable.decide (x10_3 < (↑x6_4.length : Int)) then
            bif Decidable.decide ((0 : Int) ≤ x6_4.getD x10_3.toNat (0 : Int)) && Decidable.decide (x6_4.getD x10_3.toNat (0 : Int) < (↑(List.length a0) : Int)) then
              bif x10_7 == (List.getD a0 (Int.toNat (x6_4.getD x10_3.toNat (0 : Int))) BE.ty41.dflt).fst.snd.fst then
                bif Decidable.decide ((0 : Int) ≤ x10_3) && Decidable.decide (x10_3 < (↑x6_4.length : Int)) then
                  bif Decidable.decide ((0 : Int) ≤ x6_4.getD x10_3.toNat (0 : Int)) && Decidable.decide (x6_4.getD x10_3.toNat (0 : Int) < (↑(List.length a0) : Int)) then
                    bif !Decidable.decide (x10_8 < (List.getD a0 (Int.toNat (x6_4.getD x10_3.toNat (0 : Int))) BE.ty41.dflt).fst.snd.snd.fst) then
                      k10 (Go.IntKind.i64.wrap (x10_3 + (1 : Int)), x10_6, x10_7, x10_8, x10_9, x10_10, x10_11, x10_12, x10_13, x10_14, x10_15, x10_16, x10_17, x10_18)
                    else
                      bif Decidable.decide ((0 : Int) ≤ x10_3) && Decidable.decide (x10_3 ≤ (↑x6_4.length : Int)) then
                        bif Decidable.decide (((0 : Nat) + (List.take (x10_3.toNat - (0 : Nat)) (List.drop (0 : Nat) x6_4)).length) * (8 : Nat) ≤ Go.Ev.maxBytes) then
                          bif Decidable.decide ((0 : Int) ≤ x6_2) && Decidable.decide (x6_2 < (↑x6_3.length : Int)) then
                            bif Decidable.decide ((([] ++ List.take (x10_3.toNat - (0 : Nat)) (List.drop (0 : Nat) x6_4)).length + (1 : Nat)) * (8 : Nat) ≤ Go.Ev.maxBytes) then
                              bif Decidable.decide ((0 : Int) ≤ x10_3) && Decidable.decide (x10_3 ≤ (↑x6_4.length : Int)) && Decidable.decide ((↑x6_4.length : Int) ≤ (↑x6_4.length : Int)) then
                                bif Decidable.decide ((([] ++ List.take (x10_3.toNat - (0 : Nat)) (List.drop (0 : Nat) x6_4) ++ [x6_3.getD x6_2.toNat (0 : Int)]).length + (List.take ((↑x6_4.length : Int).toNat - x10_3.toNat) (List.drop x10_3.toNat x6_4)).length) * (8 : Nat) ≤ Go.Ev.maxBytes) then
                                  k6 (Go.IntKind.i64.wrap (x6_2 + (1 : Int)), x6_3, [] ++ List.take (x10_3.toNat - (0 : Nat)) (List.drop (0 : Nat) x6_4) ++ [x6_3.getD x6_2.toNat (0 : Int)] ++ List.take ((↑x6_4.length : Int).toNat - x10_3.toNat) (List.drop x10_3.toNat x6_4))
                                else
                                  none
                              else
                                none
                            else
                              none
                          else
                            none
                        else
                          none
                      else
                        none
                  else
                    none
                else
                  none
              else
                k10 (Go.IntKind.i64.wrap (x10_3 + (1 : Int)), x10_6, x10_7, x10_8, x10_9, x10_10, x10_11, x10_12, x10_13, x10_14, x10_15, x10_16, x10_17, x10_18)
            else
              none
          else
            none
      else
        none
    else
      none
  else
    bif Decidable.decide ((0 : Int) ≤ x10_3) && Decidable.decide (x10_3 ≤ (↑x6_4.length : Int)) then
      bif Decidable.decide (((0 : Nat) + (List.take (x10_3.toNat - (0 : Nat)) (List.drop (0 : Nat) x6_4)).length) * (8 : Nat) ≤ Go.Ev.maxBytes) then
        bif Decidable.decide ((0 : Int) ≤ x6_2) && Decidable.decide (x6_2 < (↑x6_3.length : Int)) then
          bif Decidable.decide ((([] ++ List.take (x10_3.toNat - (0 : Nat)) (List.drop (0 : Nat) x6_4)).length + (1 : Nat)) * (8 : Nat) ≤ Go.Ev.maxBytes) then
            bif Decidable.decide ((0 : Int) ≤ x10_3) && Decidable.decide (x10_3 ≤ (↑x6_4.length : Int)) && Decidable.decide ((↑x6_4.length : Int) ≤ (↑x6_4.length : Int)) then
              bif Decidable.decide ((([] ++ List.take (x10_3.toNat - (0 : Nat)) (List.drop (0 : Nat) x6_4) ++ [x6_3.getD x6_2.toNat (0 : Int)]).length + (List.take ((↑x6_4.length : Int).toNat - x10_3.toNat) (List.drop x10_3.toNat x6_4)).length) * (8 : Nat) ≤ Go.Ev.maxBytes) then
                k6 (Go.IntKind.i64.wrap (x6_2 + (1 : Int)), x6_3, [] ++ List.take (x10_3.toNat - (0 : Nat)) (List.drop (0 : Nat) x6_4) ++ [x6_3.getD x6_2.toNat (0 : Int)] ++ List.take ((↑x6_4.length : Int).toNat - x10_3.toNat) (List.drop x10_3.toNat x6_4))
              else
                none
            else
              none
          else
            none
        else
          none
      else
        none
    else
      none
theorem rSet.b10_ev (c43 : (List T41) × Int × Unit → Option (List Int × Unit)) (fuel : Nat) (k6 : St → Option (List Int × Unit)) (k10 : St → Option (List Int × Unit)) (a0 : (List T41)) (a1 : (List Int)) (a2 : Int) (x6_2 : Int) (x6_3 : (List Int)) (x6_4 : (List Int)) (s : (Int × Int × Int × Int × Bool × Int × (List T71) × Int × Bool × Int × Bool × Int × Bool × (List Int))) :
    bodyAt (rSet.E c43) fuel 10 (rSet.C6 c43 fuel) (rSet.K6 c43 fuel k6) k10 (rSet.mk10 a0 a1 a2 x6_2 x6_3 x6_4 s) =
    rSet.b10 c43 a0 a1 a2 x6_2 x6_3 x6_4 (fun t => k6 (rSet.mk6 a0 a1 a2 t)) (fun t => k10 (rSet.mk10 a0 a1 a2 x6_2 x6_3 x6_4 t)) s := by kernel_rfl
noncomputable def rSet.l10 (c43 : (List T41) × Int × Unit → Option (List Int × Unit)) (fuel : Nat) (a0 : (List T41)) (a1 : (List Int)) (a2 : Int) (x6_2 : Int) (x6_3 : (List Int)) (x6_4 : (List Int)) (k6 : (Int × (List Int) × (List Int)) → Option (List Int × Unit)) (n : Nat) (s : (Int × Int × Int × Int × Bool × Int × (List T71) × Int × Bool × Int × Bool × Int × Bool × (List Int))) : Option (List Int × Unit) :=
  iterN (fun k10 s => rSet.b10 c43 a0 a1 a2 x6_2 x6_3 x6_4 k6 k10 s) n s
theorem rSet.l10_ev (c43 : (List T41) × Int × Unit → Option (List Int × Unit)) (fuel : Nat) (k6 : St → Option (List Int × Unit)) (a0 : (List T41)) (a1 : (List Int)) (a2 : Int) (x6_2 : Int) (x6_3 : (List Int)) (x6_4 : (List Int)) (n : Nat) (s : (Int × Int × Int × Int × Bool × Int × (List T71) × Int × Bool × Int × Bool × Int × Bool × (List Int))) :
    loopAt (rSet.E c43) fuel 10 (rSet.C6 c43 fuel) (rSet.K6 c43 fuel k6) n (rSet.mk10 a0 a1 a2 x6_2 x6_3 x6_4 s) = rSet.l10 c43 fuel a0 a1 a2 x6_2 x6_3 x6_4 (fun t => k6 (rSet.mk6 a0 a1 a2 t)) n s :=
  loop_iter (fun k10 s => (rSet.b10_ev c43 fuel k6 k10 a0 a1 a2 x6_2 x6_3 x6_4 s)) n s
noncomputable def rSet.b6 (c43 : (List T41) × Int × Unit → Option (List Int × Unit)) (a0 : (List T41)) (a1 : (List Int)) (a2 : Int) (i10 : Int → (List Int) → (List Int) → (Int × Int × Int × Int × Bool × Int × (List T71) × Int × Bool × Int × Bool × Int × Bool × (List Int)) → Option (List Int × Unit)) (k6 : (Int × (List Int) × (List Int)) → Option (List Int × Unit)) (s : (Int × (List Int) × (List Int))) : Option (List Int × Unit) :=
  match s with
  | (x6_2, x6_3, x6_4) =>
  bif Decidable.decide (x6_2 < (↑x6_3.length : Int)) then
    bif Decidable.decide ((0 : Int) ≤ x6_2) && Decidable.decide (x6_2 < (↑x6_3.length : Int)) then
      bif Decidable.decide ((0 : Int) ≤ x6_3.getD x6_2.toNat (0 : Int)) && Decidable.decide (x6_3.getD x6_2.toNat (0 : Int) < (↑(List.length a0) : Int)) then
        i10 x6_2 x6_3 x6_4 ((0 : Int), (List.getD a0 (Int.toNat (x6_3.getD x6_2.toNat (0 : Int))) BE.ty41.dflt).fst.fst, (List.getD a0 (Int.toNat (x6_3.getD x6_2.toNat (0 : Int))) BE.ty41.dflt).fst.snd.fst, (List.getD a0 (Int.toNat (x6_3.getD x6_2.toNat (0 : Int))) BE.ty41.dflt).fst.snd.snd.fst, (List.getD a0 (Int.toNat (x6_3.getD x6_2.toNat (0 : Int))) BE.ty41.dflt).fst.snd.snd.snd.fst, (List.getD a0 (Int.toNat (x6_3.getD x6_2.toNat (0 : Int))) BE.ty41.dflt).fst.snd.snd.snd.snd.fst, (List.getD a0 (Int.toNat (x6_3.getD x6_2.toNat (0 : Int))) BE.ty41.dflt).fst.snd.snd.snd.snd.snd.fst, (List.getD a0 (Int.toNat (x6_3.getD x6_2.toNat (0 : Int))) BE.ty41.dflt).fst.snd.snd.snd.snd.snd.snd.fst, (List.getD a0 (Int.toNat (x6_3.getD x6_2.toNat (0 : Int))) BE.ty41.dflt).fst.snd.snd.snd.snd.snd.snd.snd.fst, (List.getD a0 (Int.toNat (x6_3.getD x6_2.toNat (0 : Int))) BE.ty41.dflt).fst.snd.snd.snd.snd.snd.snd.snd.snd.fst, (List.getD a0 (Int.toNat (x6_3.getD x6_2.toNat (0 : Int))) BE.ty41.dflt).fst.snd.snd.snd.snd.snd.snd.snd.snd.snd.fst, (List.getD a0 (Int.toNat (x6_3.getD x6_2.toNat (0 : Int))) BE.ty41.dflt).fst.snd.snd.snd.snd.snd.snd.snd.snd.snd.snd.fst, (List.getD a0 (Int.toNat (x6_3.getD x6_2.toNat (0 : Int))) BE.ty41.dflt).fst.snd.snd.snd.snd.snd.snd.snd.snd.snd.snd.snd.fst, (List.getD a0 (Int.toNat (x6_3.getD x6_2.toNat (0 : Int))) BE.ty41.dflt).fst.snd.snd.snd.snd.snd.snd.snd.snd.snd.snd.snd.snd)
      else
        none
    else
      none
  else
    bif Decidable.decide ((↑x6_4.length : Int) > a2) then
      bif Decidable.decide ((0 : Int) ≤ a2) && Decidable.decide (a2 ≤ (↑x6_4.length : Int)) then
        some (List.take (Int.toNat a2 - (0 : Nat)) (List.drop (0 : Nat) x6_4), PUnit.unit)
      else
        none
    else
      some (x6_4, PUnit.unit)
theorem rSet.b6_ev (c43 : (List T41) × Int × Unit → Option (List Int × Unit)) (fuel : Nat) (k6 : St → Option (List Int × Unit)) (a0 : (List T41)) (a1 : (List Int)) (a2 : Int) (s : (Int × (List Int) × (List Int))) :
    bodyAt (rSet.E c43) fuel 6 rSet.C (endK (rSet.E c43) [.fresh ty2] Try.f30) k6 (rSet.mk6 a0 a1 a2 s) =
    rSet.b6 c43 a0 a1 a2 (fun x6_2 x6_3 x6_4 t => loopAt (rSet.E c43) fuel 10 (rSet.C6 c43 fuel) (rSet.K6 c43 fuel k6) fuel (rSet.mk10 a0 a1 a2 x6_2 x6_3 x6_4 t)) (fun t => k6 (rSet.mk6 a0 a1 a2 t)) s := by kernel_rfl
noncomputable def rSet.l6 (c43 : (List T41) × Int × Unit → Option (List Int × Unit)) (fuel : Nat) (a0 : (List T41)) (a1 : (List Int)) (a2 : Int) (n : Nat) (s : (Int × (List Int) × (List Int))) : Option (List Int × Unit) :=
  iterN (fun k6 s => rSet.b6 c43 a0 a1 a2 (fun x6_2 x6_3 x6_4 t => rSet.l10 c43 fuel a0 a1 a2 x6_2 x6_3 x6_4 k6 fuel t) k6 s) n s
theorem rSet.l6_ev (c43 : (List T41) × Int × Unit → Option (List Int × Unit)) (fuel : Nat) (a0 : (List T41)) (a1 : (List Int)) (a2 : Int) (n : Nat) (s : (Int × (List Int) × (List Int))) :
    loopAt (rSet.E c43) fuel 6 rSet.C (endK (rSet.E c43) [.fresh ty2] Try.f30) n (rSet.mk6 a0 a1 a2 s) = rSet.l6 c43 fuel a0 a1 a2 n s :=
  loop_iter (fun k6 s => (rSet.b6_ev c43 fuel k6 a0 a1 a2 s).trans (congrFun (congrFun (congrArg (rSet.b6 c43 a0 a1 a2) (funext fun x6_2 => funext fun x6_3 => funext fun x6_4 => funext fun t => rSet.l10_ev c43 fuel k6 a0 a1 a2 x6_2 x6_3 x6_4 fuel t)) (fun t => k6 (rSet.mk6 a0 a1 a2 t))) s)) n s
noncomputable def rSet.b (c43 : (List T41) × Int × Unit → Option (List Int × Unit)) (a0 : (List T41)) (a1 : (List Int)) (a2 : Int) (i6 : (Int × (List Int) × (List Int)) → Option (List Int × Unit)) : Option (List Int × Unit) :=
  bif (↑(List.length a1) : Int) != (↑(List.length a0) : Int) then
    some ([], PUnit.unit)
  else
    bif Decidable.decide (a2 < (1 : Int)) then
      some ([], PUnit.unit)
    else
      bif Decidable.decide (a2 > (8 : Int)) then
        some ([], PUnit.unit)
      else
        (c43 (a0, (6 : Int), ())).bind fun r0 =>
        i6 ((0 : Int), r0.fst, [])
theorem rSet.b_ev (c43 : (List T41) × Int × Unit → Option (List Int × Unit)) (fuel : Nat) (a0 : (List T41)) (a1 : (List Int)) (a2 : Int) : evalBody (rSet.E c43) fuel Try.f30 rSet.C [ty23, ty24, ty2] [.fresh ty2] (a0, a1, a2, ()) =
    rSet.b c43 a0 a1 a2 (fun t => loopAt (rSet.E c43) fuel 6 rSet.C (endK (rSet.E c43) [.fresh ty2] Try.f30) fuel (rSet.mk6 a0 a1 a2 t)) := by kernel_rfl
noncomputable def rSet.f (c43 : (List T41) × Int × Unit → Option (List Int × Unit)) (fuel : Nat) (a0 : (List T41)) (a1 : (List Int)) (a2 : Int) : Option (List Int × Unit) := rSet.b c43 a0 a1 a2 (fun t => rSet.l6 c43 fuel a0 a1 a2 fuel t)
theorem rSet.ev (c43 : (List T41) × Int × Unit → Option (List Int × Unit)) (fuel : Nat) (a0 : (List T41)) (a1 : (List Int)) (a2 : Int) : evalBody (rSet.E c43) fuel Try.f30 rSet.C [ty23, ty24, ty2] [.fresh ty2] (a0, a1, a2, ()) = rSet.f c43 fuel a0 a1 a2 :=
  (rSet.b_ev c43 fuel a0 a1 a2).trans (congrArg (rSet.b c43 a0 a1 a2) (funext fun t => rSet.l6_ev c43 fuel a0 a1 a2 fuel t))

/-! ### inn -/
noncomputable def inn.E : Env := envOf Try.prog (pick []) (pick []) (pick [(3, [(0, none), (3, some ty41), (4, none)])])
noncomputable def inn.C : Code := Try.f31.body.getD .skip
noncomputable def inn.mk3 (a0 : (List T41)) (s : (Int × (List T41))) : St := { tmps := slots 26 0 [(0, (.one (.pure ty23 a0))), (3, (.one (.own 0))), (4, (.one (.pure ty2 s.1)))], st := [(0, (.row ty41 s.2))], next := 1 }
noncomputable def inn.b3 (a0 : (List T41)) (k3 : (Int × (List T41)) → Option (List T41 × Unit)) (s : (Int × (List T41))) : Option (List T41 × Unit) :=
  match s with
  | (x3_1, x3_2) =>
  bif Decidable.decide (x3_1 < (↑(List.length a0) : Int)) then
    bif Decidable.decide ((0 : Int) ≤ x3_1) && Decidable.decide (x3_1 < (↑(List.length a0) : Int)) then
      bif Decidable.decide ((0 : Int) ≤ x3_1) && Decidable.decide (x3_1 < (↑(List.length a0) : Int)) then
        bif Decidable.decide ((x3_2.length + (1 : Nat)) * (112 : Nat) ≤ Go.Ev.maxBytes) then
          k3 (Go.IntKind.i64.wrap (x3_1 + (1 : Int)), x3_2 ++ [List.getD a0 x3_1.toNat BE.ty41.dflt])
        else
          none
      else
        none
    else
      none
  else
    some (x3_2, PUnit.unit)
theorem inn.b3_ev (fuel : Nat) (k3 : St → Option (List T41 × Unit)) (a0 : (List T41)) (s : (Int × (List T41))) :
    bodyAt (inn.E) fuel 3 inn.C (endK (inn.E) [.fresh ty41] Try.f31) k3 (inn.mk3 a0 s) =
    inn.b3 a0 (fun t => k3 (inn.mk3 a0 t)) s := by kernel_rfl
noncomputable def inn.l3 (fuel : Nat) (a0 : (List T41)) (n : Nat) (s : (Int × (List T41))) : Option (List T41 × Unit) :=
  iterN (fun k3 s => inn.b3 a0 k3 s) n s
theorem inn.l3_ev (fuel : Nat) (a0 : (List T41)) (n : Nat) (s : (Int × (List T41))) :
    loopAt (inn.E) fuel 3 inn.C (endK (inn.E) [.fresh ty41] Try.f31) n (inn.mk3 a0 s) = inn.l3 fuel a0 n s :=
  loop_iter (fun k3 s => (inn.b3_ev fuel k3 a0 s)) n s
noncomputable def inn.b (a0 : (List T41)) (i3 : (Int × (List T41)) → Option (List T41 × Unit)) : Option (List T41 × Unit) :=
  i3 ((0 : Int), [])
theorem inn.b_ev (fuel : Nat) (a0 : (List T41)) : evalBody (inn.E) fuel Try.f31 inn.C [ty23] [.fresh ty41] (a0, ()) =
    inn.b a0 (fun t => loopAt (inn.E) fuel 3 inn.C (endK (inn.E) [.fresh ty41] Try.f31) fuel (inn.mk3 a0 t)) := by kernel_rfl
noncomputable def inn.f (fuel : Nat) (a0 : (List T41)) : Option (List T41 × Unit) := inn.b a0 (fun t => inn.l3 fuel a0 fuel t)
theorem inn.ev (fuel : Nat) (a0 : (List T41)) : evalBody (inn.E) fuel Try.f31 inn.C [ty23] [.fresh ty41] (a0, ()) = inn.f fuel a0 :=
  (inn.b_ev fuel a0).trans (congrArg (inn.b a0) (funext fun t => inn.l3_ev fuel a0 fuel t))

/-! ### rHops -/
noncomputable def rHops.E (c30 : (List T41) × (List Int) × Int × Unit → Option (List Int × Unit)) (c44 : (List Nat) × Int × Unit → Option (List Int × Unit)) : Env := envOf Try.prog (pick [(30, ⟨[ty23, ty24, ty2], [.fresh ty2], c30⟩), (44, ⟨[ty65, ty2], [.fresh ty2], c44⟩)]) (pick []) (pick [(5, [(1, none), (7, none), (8, some ty2), (9, some ty40), (10, none)]), (9, [(1, none), (7, none), (8, none), (9, none), (10, none), (11, none), (12, none)]), (18, [(8, none), (13, none), (14, some ty44), (15, none)])])
noncomputable def rHops.C : Code := Try.f32.body.getD .skip
noncomputable def rHops.mk5 (a0 : (List T41)) (a1 : (List Int)) (a2 : Int) (s : (Int × (List Int) × (List Int) × (List Nat))) : St := { tmps := slots 116 0 [(1, (.one (.pure ty24 a1))), (7, (.one (.own 0))), (8, (.one (.own 1))), (9, (.one (.own 2))), (10, (.one (.pure ty2 s.1)))], st := [(0, (.row ty2 s.2.1)), (1, (.row ty2 s.2.2.1)), (2, (.row ty40 s.2.2.2))], next := 3 }
noncomputable def rHops.mk18 (a0 : (List T41)) (a1 : (List Int)) (a2 : Int) (x5_3 : (List Int)) (s : (Int × (List Int) × (List T44))) : St := { tmps := slots 116 0 [(8, (.one (.own 0))), (13, (.one (.own 1))), (14, (.one (.own 2))), (15, (.one (.pure ty2 s.1)))], st := [(0, (.row ty2 x5_3)), (1, (.row ty2 s.2.1)), (2, (.row ty44 s.2.2))], next := 3 }
noncomputable def rHops.mk9 (a0 : (List T41)) (a1 : (List Int)) (a2 : Int) (x5_1 : Int) (x5_2 : (List Int)) (x5_3 : (List Int)) (x5_4 : (List Nat)) (s : (Int × Int)) : St := { tmps := slots 116 0 [(1, (.one (.pure ty24 a1))), (7, (.one (.own 0))), (8, (.one (.own 1))), (9, (.one (.own 2))), (10, (.one (.pure ty2 x5_1))), (11, (.one (.pure ty2 s.1))), (12, (.one (.pure ty2 s.2)))], st := [(0, (.row ty2 x5_2)), (1, (.row ty2 x5_3)), (2, (.row ty40 x5_4))], next := 3 }
noncomputable def rHops.C5 (c30 : (List T41) × (List Int) × Int × Unit → Option (List Int × Unit)) (c44 : (List Nat) × Int × Unit → Option (List Int × Unit)) (fuel : Nat) : Code := codeAt (rHops.E c30 c44) fuel 5 rHops.C
noncomputable def rHops.K5 (c30 : (List T41) × (List Int) × Int × Unit → Option (List Int × Unit)) (c44 : (List Nat) × Int × Unit → Option (List Int × Unit)) (fuel : Nat) (k5 : St → Option (List T44 × Unit)) : Ex → St → Option (List T44 × Unit) := contAt (rHops.E c30 c44) fuel 5 rHops.C (endK (rHops.E c30 c44) [.fresh ty44] Try.f32) k5
noncomputable def rHops.b18 (c30 : (List T41) × (List Int) × Int × Unit → Option (List Int × Unit)) (c44 : (List Nat) × Int × Unit → Option (List Int × Unit)) (a0 : (List T41)) (a1 : (List Int)) (a2 : Int) (x5_3 : (List Int)) (k18 : (Int × (List Int) × (List T44)) → Option (List T44 × Unit)) (s : (Int × (List Int) × (List T44))) : Option (List T44 × Unit) :=
  match s with
  | (x18_0, x18_2, x18_3) =>
  bif Decidable.decide (x18_0 < (↑x5_3.length : Int)) then
    bif Decidable.decide ((0 : Int) ≤ x18_0) && Decidable.decide (x18_0 < (↑x18_2.length : Int)) then
      bif Decidable.decide (x18_2.getD x18_0.toNat (0 : Int) > (0 : Int)) then
        bif Decidable.decide ((0 : Int) ≤ x18_0) && Decidable.decide (x18_0 < (↑x5_3.length : Int)) then
          bif Decidable.decide ((0 : Int) ≤ x18_0) && Decidable.decide (x18_0 < (↑x18_2.length : Int)) then
            bif Decidable.decide ((x18_3.length + (1 : Nat)) * (16 : Nat) ≤ Go.Ev.maxBytes) then
              k18 (Go.IntKind.i64.wrap (x18_0 + (1 : Int)), x18_2, x18_3 ++ [(x5_3.getD x18_0.toNat (0 : Int), x18_2.getD x18_0.toNat (0 : Int))])
            else
              none
          else
            none
        else
          none
      else
        k18 (Go.IntKind.i64.wrap (x18_0 + (1 : Int)), x18_2, x18_3)
    else
      none
  else
    some (x18_3, PUnit.unit)
theorem rHops.b18_ev (c30 : (List T41) × (List Int) × Int × Unit → Option (List Int × Unit)) (c44 : (List Nat) × Int × Unit → Option (List Int × Unit)) (fuel : Nat) (k18 : St → Option (List T44 × Unit)) (a0 : (List T41)) (a1 : (List Int)) (a2 : Int) (x5_3 : (List Int)) (s : (Int × (List Int) × (List T44))) :
    bodyAt (rHops.E c30 c44) fuel 18 rHops.C (endK (rHops.E c30 c44) [.fresh ty44] Try.f32) k18 (rHops.mk18 a0 a1 a2 x5_3 s) =
    rHops.b18 c30 c44 a0 a1 a2 x5_3 (fun t => k18 (rHops.mk18 a0 a1 a2 x5_3 t)) s := by kernel_rfl
noncomputable def rHops.l18 (c30 : (List T41) × (List Int) × Int × Unit → Option (List Int × Unit)) (c44 : (List Nat) × Int × Unit → Option (List Int × Unit)) (fuel : Nat) (a0 : (List T41)) (a1 : (List Int)) (a2 : Int) (x5_3 : (List Int)) (n : Nat) (s : (Int × (List Int) × (List T44))) : Option (List T44 × Unit) :=
  iterN (fun k18 s => rHops.b18 c30 c44 a0 a1 a2 x5_3 k18 s) n s
theorem rHops.l18_ev (c30 : (List T41) × (List Int) × Int × Unit → Option (List Int × Unit)) (c44 : (List Nat) × Int × Unit → Option (List Int × Unit)) (fuel : Nat) (a0 : (List T41)) (a1 : (List Int)) (a2 : Int) (x5_3 : (List Int)) (n : Nat) (s : (Int × (List Int) × (List T44))) :
    loopAt (rHops.E c30 c44) fuel 18 rHops.C (endK (rHops.E c30 c44) [.fresh ty44] Try.f32) n (rHops.mk18 a0 a1 a2 x5_3 s) = rHops.l18 c30 c44 fuel a0 a1 a2 x5_3 n s :=
  loop_iter (fun k18 s => (rHops.b18_ev c30 c44 fuel k18 a0 a1 a2 x5_3 s)) n s
noncomputable def rHops.b9 (c30 : (List T41) × (List Int) × Int × Unit → Option (List Int × Unit)) (c44 : (List Nat) × Int × Unit → Option (List Int × Unit)) (a0 : (List T41)) (a1 : (List Int)) (a2 : Int) (x5_1 : Int) (x5_2 : (List Int)) (x5_3 : (List Int)) (x5_4 : (List Nat)) (k5 : (Int × (List Int) × (List Int) × (List Nat)) → Option (List T44 × Unit)) (k9 : (Int × Int) → Option (List T44 × Unit)) (s : (Int × Int)) : Option (List T44 × Unit) :=
  match s with
  | (x9_2, x9_3) =>
  bif Decidable.decide (x9_3 < (↑x5_3.length : Int)) then
    bif Decidable.decide ((0 : Int) ≤ x9_3) && Decidable.decide (x9_3 < (↑x5_3.length : Int)) then
      bif Decidable.decide (x5_3.getD x9_3.toNat (0 : Int) < x9_2) then
        k9 (x9_2, Go.IntKind.i64.wrap (x9_3 + (1 : Int)))
      else
        bif Decidable.decide (x9_3 < (↑x5_3.length : Int)) then
          bif Decidable.decide ((0 : Int) ≤ x9_3) && Decidable.decide (x9_3 < (↑x5_3.length : Int)) then
            bif x5_3.getD x9_3.toNat (0 : Int) == x9_2 then
              bif Decidable.decide ((0 : Int) ≤ x9_3) && Decidable.decide (x9_3 < (↑x5_4.length : Int)) then
                bif (Go.FloatKind.f64.format.add (x5_4.getD x9_3.toNat (0 : Nat)) (4607182418800017408 : Nat)).isSome then
                  bif Decidable.decide ((0 : Int) ≤ x9_3) && Decidable.decide (x9_3 < (↑x5_4.length : Int)) then
                    k5 (Go.IntKind.i64.wrap (x5_1 + (1 : Int)), x5_2, x5_3, x5_4.set x9_3.toNat ((Go.FloatKind.f64.format.add (x5_4.getD x9_3.toNat (0 : Nat)) (4607182418800017408 : Nat)).getD (0 : Nat)))
                  else
                    none
                else
                  none
              else
                none
            else
              bif Decidable.decide ((0 : Int) ≤ x9_3) && Decidable.decide (x9_3 ≤ (↑x5_3.length : Int)) then
                bif Decidable.decide (((0 : Nat) + (List.take (x9_3.toNat - (0 : Nat)) (List.drop (0 : Nat) x5_3)).length) * (8 : Nat) ≤ Go.Ev.maxBytes) then
                  bif Decidable.decide ((([] ++ List.take (x9_3.toNat - (0 : Nat)) (List.drop (0 : Nat) x5_3)).length + (1 : Nat)) * (8 : Nat) ≤ Go.Ev.maxBytes) then
                    bif Decidable.decide ((0 : Int) ≤ x9_3) && Decidable.decide (x9_3 ≤ (↑x5_3.length : Int)) && Decidable.decide ((↑x5_3.length : Int) ≤ (↑x5_3.length : Int)) then
                      bif Decidable.decide ((([] ++ List.take (x9_3.toNat - (0 : Nat)) (List.drop (0 : Nat) x5_3) ++ [x9_2]).length + (List.take ((↑x5_3.length : Int).toNat - x9_3.toNat) (List.drop x9_3.toNat x5_3)).length) * (8 : Nat) ≤ Go.Ev.maxBytes) then
                        bif Decidable.decide ((0 : Int) ≤ x9_3) && Decidable.decide (x9_3 ≤ (↑x5_4.length : Int)) then
                          bif Decidable.decide (((0 : Nat) + (List.take (x9_3.toNat - (0 : Nat)) (List.drop (0 : Nat) x5_4)).length) * (8 : Nat) ≤ Go.Ev.maxBytes) then
                            bif Decidable.decide ((([] ++ List.take (x9_3.toNat - (0 : Nat)) (List.drop (0 : Nat) x5_4)).length + (1 : Nat)) * (8 : Nat) ≤ Go.Ev.maxBytes) then
                              bif Decidable.decide ((0 : Int) ≤ x9_3) && Decidable.decide (x9_3 ≤ (↑x5_4.length : Int)) && Decidable.decide ((↑x5_4.length : Int) ≤ (↑x5_4.length : Int)) then
                                bif Decidable.decide ((([] ++ List.take (x9_3.toNat - (0 : Nat)) (List.drop (0 : Nat) x5_4) ++ [(4607182418800017408 : Nat)]).length + (List.take ((↑x5_4.length : Int).toNat - x9_3.toNat) (List.drop x9_3.toNat x5_4)).length) * (8 : Nat) ≤ Go.Ev.maxBytes) then
                                  k5 (Go.IntKind.i64.wrap (x5_1 + (1 : Int)), x5_2, [] ++ List.take (x9_3.toNat - (0 : Nat)) (List.drop (0 : Nat) x5_3) ++ [x9_2] ++ List.take ((↑x5_3.length : Int).toNat - x9_3.toNat) (List.drop x9_3.toNat x5_3), [] ++ List.take (x9_3.toNat - (0 : Nat)) (List.drop (0 : Nat) x5_4) ++ [(4607182418800017408 : Nat)] ++ List.take ((↑x5_4.length : Int).toNat - x9_3.toNat) (List.drop x9_3.toNat x5_4))
                                else
                                  none
                              else
                                none
                            else
                              none
                          else
                            none
                        else
                          none
                      else
                        none
                    else
                      none
                  else
                    none
                else
                  none
              else
                none
          else
            none
        else
          bif Decidable.decide ((0 : Int) ≤ x9_3) && Decidable.decide (x9_3 ≤ (↑x5_3.length : Int)) then
            bif Decidable.decide (((0 : Nat) + (List.take (x9_3.toNat - (0 : Nat)) (List.drop (0 : Nat) x5_3)).length) * (8 : Nat) ≤ Go.Ev.maxBytes) then
              bif Decidable.decide ((([] ++ List.take (x9_3.toNat - (0 : Nat)) (List.drop (0 : Nat) x5_3)).length + (1 : Nat)) * (8 : Nat) ≤ Go.Ev.maxBytes) then
                bif Decidable.decide ((0 : Int) ≤ x9_3) && Decidable.decide (x9_3 ≤ (↑x5_3.length : Int)) && Decidable.decide ((↑x5_3.length : Int) ≤ (↑x5_3.length : Int)) then
                  bif Decidable.decide ((([] ++ List.take (x9_3.toNat - (0 : Nat)) (List.drop (0 : Nat) x5_3) ++ [x9_2]).length + (List.take ((↑x5_3.length : Int).toNat - x9_3.toNat) (List.drop x9_3.toNat x5_3)).length) * (8 : Nat) ≤ Go.Ev.maxBytes) then
                    bif Decidable.decide ((0 : Int) ≤ x9_3) && Decidable.decide (x9_3 ≤ (↑x5_4.length : Int)) then
                      bif Decidable.decide (((0 : Nat) + (List.take (x9_3.toNat - (0 : Nat)) (List.drop (0 : Nat) x5_4)).length) * (8 : Nat) ≤ Go.Ev.maxBytes) then
                        bif Decidable.decide ((([] ++ List.take (x9_3.toNat - (0 : Nat)) (List.drop (0 : Nat) x5_4)).length + (1 : Nat)) * (8 : Nat) ≤ Go.Ev.maxBytes) then
                          bif Decidable.decide ((0 : Int) ≤ x9_3) && Decidable.decide (x9_3 ≤ (↑x5_4.length : Int)) && Decidable.decide ((↑x5_4.length : Int) ≤ (↑x5_4.length : Int)) then
                            bif Decidable.decide ((([] ++ List.take (x9_3.toNat - (0 : Nat)) (List.drop (0 : Nat) x5_4) ++ [(4607182418800017408 : Nat)]).length + (List.take ((↑x5_4.length : Int).toNat - x9_3.toNat) (List.drop x9_3.toNat x5_4)).length) * (8 : Nat) ≤ Go.Ev.maxBytes) then
                              k5 (Go.IntKind.i64.wrap (x5_1 + (1 : Int)), x5_2, [] ++ List.take (x9_3.toNat - (0 : Nat)) (List.drop (0 : Nat) x5_3) ++ [x9_2] ++ List.take ((↑x5_3.length : Int).toNat - x9_3.toNat) (List.drop x9_3.toNat x5_3), [] ++ List.take (x9_3.toNat - (0 : Nat)) (List.drop (0 : Nat) x5_4) ++ [(4607182418800017408 : Nat)] ++ List.take ((↑x5_4.length : Int).toNat - x9_3.toNat) (List.drop x9_3.toNat x5_4))
                            else
                              none
                          else
                            none
                        else
                          none
                      else
                        none
                    else
                      none
                  else
                    none
                else
                  none
              else
                none
            else
              none
          else
            none
    else
      none
  else
    bif Decidable.decide (x9_3 < (↑x5_3.length : Int)) then
      bif Decidable.decide ((0 : Int) ≤ x9_3) && Decidable.decide (x9_3 < (↑x5_3.length : Int)) then
        bif x5_3.getD x9_3.toNat (0 : Int) == x9_2 then
          bif Decidable.decide ((0 : Int) ≤ x9_3) && Decidable.decide (x9_3 < (↑x5_4.length : Int)) then
            bif (Go.FloatKind.f64.format.add (x5_4.getD x9_3.toNat (0 : Nat)) (4607182418800017408 : Nat)).isSome then
              bif Decidable.decide ((0 : Int) ≤ x9_3) && Decidable.decide (x9_3 < (↑x5_4.length : Int)) then
                k5 (Go.IntKind.i64.wrap (x5_1 + (1 : Int)), x5_2, x5_3, x5_4.set x9_3.toNat ((Go.FloatKind.f64.format.add (x5_4.getD x9_3.toNat (0 : Nat)) (4607182418800017408 : Nat)).getD (0 : Nat)))
              else
                none
            else
              none
          else
            none
        else
          bif Decidable.decide ((0 : Int) ≤ x9_3) && Decidable.decide (x9_3 ≤ (↑x5_3.length : Int)) then
            bif Decidable.decide (((0 : Nat) + (List.take (x9_3.toNat - (0 : Nat)) (List.drop (0 : Nat) x5_3)).length) * (8 : Nat) ≤ Go.Ev.maxBytes) then
              bif Decidable.decide ((([] ++ List.take (x9_3.toNat - (0 : Nat)) (List.drop (0 : Nat) x5_3)).length + (1 : Nat)) * (8 : Nat) ≤ Go.Ev.maxBytes) then
                bif Decidable.decide ((0 : Int) ≤ x9_3) && Decidable.decide (x9_3 ≤ (↑x5_3.length : Int)) && Decidable.decide ((↑x5_3.length : Int) ≤ (↑x5_3.length : Int)) then
                  bif Decidable.decide ((([] ++ List.take (x9_3.toNat - (0 : Nat)) (List.drop (0 : Nat) x5_3) ++ [x9_2]).length + (List.take ((↑x5_3.length : Int).toNat - x9_3.toNat) (List.drop x9_3.toNat x5_3)).length) * (8 : Nat) ≤ Go.Ev.maxBytes) then
                    bif Decidable.decide ((0 : Int) ≤ x9_3) && Decidable.decide (x9_3 ≤ (↑x5_4.length : Int)) then
                      bif Decidable.decide (((0 : Nat) + (List.take (x9_3.toNat - (0 : Nat)) (List.drop (0 : Nat) x5_4)).length) * (8 : Nat) ≤ Go.Ev.maxBytes) then
                        bif Decidable.decide ((([] ++ List.take (x9_3.toNat - (0 : Nat)) (List.drop (0 : Nat) x5_4)).length + (1 : Nat)) * (8 : Nat) ≤ Go.Ev.maxBytes) then
                          bif Decidable.decide ((0 : Int) ≤ x9_3) && Decidable.decide (x9_3 ≤ (↑x5_4.length : Int)) && Decidable.decide ((↑x5_4.length : Int) ≤ (↑x5_4.length : Int)) then
                            bif Decidable.decide ((([] ++ List.take (x9_3.toNat - (0 : Nat)) (List.drop (0 : Nat) x5_4) ++ [(4607182418800017408 : Nat)]).length + (List.take ((↑x5_4.length : Int).toNat - x9_3.toNat) (List.drop x9_3.toNat x5_4)).length) * (8 : Nat) ≤ Go.Ev.maxBytes) then
                              k5 (Go.IntKind.i64.wrap (x5_1 + (1 : Int)), x5_2, [] ++ List.take (x9_3.toNat - (0 : Nat)) (List.drop (0 : Nat) x5_3) ++ [x9_2] ++ List.take ((↑x5_3.length : Int).toNat - x9_3.toNat) (List.drop x9_3.toNat x5_3), [] ++ List.take (x9_3.toNat - (0 : Nat)) (List.drop (0 : Nat) x5_4) ++ [(4607182418800017408 : Nat)] ++ List.take ((↑x5_4.length : Int).toNat - x9_3.toNat) (List.drop x9_3.toNat x5_4))
                            else
                              none
                          else
                            none
                        else
                          none
                      else
                        none
                    else
                      none
                  else
                    none
                else
                  none
              else
                none
            else
              none
          else
            none
      else
        none
    else
      bif Decidable.decide ((0 : Int) ≤ x9_3) && Decidable.decide (x9_3 ≤ (↑x5_3.length : Int)) then
        bif Decidable.decide (((0 : Nat) + (List.take (x9_3.toNat - (0 : Nat)) (List.drop (0 : Nat) x5_3)).length) * (8 : Nat) ≤ Go.Ev.maxBytes) then
          bif Decidable.decide ((([] ++ List.take (x9_3.toNat - (0 : Nat)) (List.drop (0 : Nat) x5_3)).length + (1 : Nat)) * (8 : Nat) ≤ Go.Ev.maxBytes) then
            bif Decidable.decide ((0 : Int) ≤ x9_3) && Decidable.decide (x9_3 ≤ (↑x5_3.length : Int)) && Decidable.decide ((↑x5_3.length : Int) ≤ (↑x5_3.length : Int)) then
              bif Decidable.decide ((([] ++ List.take (x9_3.toNat - (0 : Nat)) (List.drop (0 : Nat) x5_3) ++ [x9_2]).length + (List.take ((↑x5_3.length : Int).toNat - x9_3.toNat) (List.drop x9_3.toNat x5_3)).length) * (8 : Nat) ≤ Go.Ev.maxBytes) then
                bif Decidable.decide ((0 : Int) ≤ x9_3) && Decidable.decide (x9_3 ≤ (↑x5_4.length : Int)) then
                  bif Decidable.decide (((0 : Nat) + (List.take (x9_3.toNat - (0 : Nat)) (List.drop (0 : Nat) x5_4)).length) * (8 : Nat) ≤ Go.Ev.maxBytes) then
                    bif Decidable.decide ((([] ++ List.take (x9_3.toNat - (0 : Nat)) (List.drop (0 : Nat) x5_4)).length + (1 : Nat)) * (8 : Nat) ≤ Go.Ev.maxBytes) then
                      bif Decidable.decide ((0 : Int) ≤ x9_3) && Decidable.decide (x9_3 ≤ (↑x5_4.length : Int)) && Decidable.decide ((↑x5_4.length : Int) ≤ (↑x5_4.length : Int)) then
                        bif Decidable.decide ((([] ++ List.take (x9_3.toNat - (0 : Nat)) (List.drop (0 : Nat) x5_4) ++ [(4607182418800017408 : Nat)]).length + (List.take ((↑x5_4.length : Int).toNat - x9_3.toNat) (List.drop x9_3.toNat x5_4)).length) * (8 : Nat) ≤ Go.Ev.maxBytes) then
                          k5 (Go.IntKind.i64.wrap (x5_1 + (1 : Int)), x5_2, [] ++ List.take (x9_3.toNat - (0 : Nat)) (List.drop (0 : Nat) x5_3) ++ [x9_2] ++ List.take ((↑x5_3.length : Int).toNat - x9_3.toNat) (List.drop x9_3.toNat x5_3), [] ++ List.take (x9_3.toNat - (0 : Nat)) (List.drop (0 : Nat) x5_4) ++ [(4607182418800017408 : Nat)] ++ List.take ((↑x5_4.length : Int).toNat - x9_3.toNat) (List.drop x9_3.toNat x5_4))
                        else
                          none
                      else
                        none
                    else
                      none
                  else
                    none
                else
                  none
              else
                none
            else
              none
          else
            none
        else
          none
      else
        none
theorem rHops.b9_ev (c30 : (List T41) × (List Int) × Int × Unit → Option (List Int × Unit)) (c44 : (List Nat) × Int × Unit → Option (List Int × Unit)) (fuel : Nat) (k5 : St → Option (List T44 × Unit)) (k9 : St → Option (List T44 × Unit)) (a0 : (List T41)) (a1 : (List Int)) (a2 : Int) (x5_1 : Int) (x5_2 : (List Int)) (x5_3 : (List Int)) (x5_4 : (List Nat)) (s : (Int × Int)) :
    bodyAt (rHops.E c30 c44) fuel 9 (rHops.C5 c30 c44 fuel) (rHops.K5 c30 c44 fuel k5) k9 (rHops.mk9 a0 a1 a2 x5_1 x5_2 x5_3 x5_4 s) =
    rHops.b9 c30 c44 a0 a1 a2 x5_1 x5_2 x5_3 x5_4 (fun t => k5 (rHops.mk5 a0 a1 a2 t)) (fun t => k9 (rHops.mk9 a0 a1 a2 x5_1 x5_2 x5_3 x5_4 t)) s := by kernel_rfl
noncomputable def rHops.l9 (c30 : (List T41) × (List Int) × Int × Unit → Option (List Int × Unit)) (c44 : (List Nat) × Int × Unit → Option (List Int × Unit)) (fuel : Nat) (a0 : (List T41)) (a1 : (List Int)) (a2 : Int) (x5_1 : Int) (x5_2 : (List Int)) (x5_3 : (List Int)) (x5_4 : (List Nat)) (k5 : (Int × (List Int) × (List Int) × (List Nat)) → Option (List T44 × Unit)) (n : Nat) (s : (Int × Int)) : Option (List T44 × Unit) :=
  iterN (fun k9 s => rHops.b9 c30 c44 a0 a1 a2 x5_1 x5_2 x5_3 x5_4 k5 k9 s) n s
theorem rHops.l9_ev (c30 : (List T41) × (List Int) × Int × Unit → Option (List Int × Unit)) (c44 : (List Nat) × Int × Unit → Option (List Int × Unit)) (fuel : Nat) (k5 : St → Option (List T44 × Unit)) (a0 : (List T41)) (a1 : (List Int)) (a2 : Int) (x5_1 : Int) (x5_2 : (List Int)) (x5_3 : (List Int)) (x5_4 : (List Nat)) (n : Nat) (s : (Int × Int)) :
    loopAt (rHops.E c30 c44) fuel 9 (rHops.C5 c30 c44 fuel) (rHops.K5 c30 c44 fuel k5) n (rHops.mk9 a0 a1 a2 x5_1 x5_2 x5_3 x5_4 s) = rHops.l9 c30 c44 fuel a0 a1 a2 x5_1 x5_2 x5_3 x5_4 (fun t => k5 (rHops.mk5 a0 a1 a2 t)) n s :=
  loop_iter (fun k9 s => (rHops.b9_ev c30 c44 fuel k5 k9 a0 a1 a2 x5_1 x5_2 x5_3 x5_4 s)) n s
noncomputable def rHops.b5 (c30 : (List T41) × (List Int) × Int × Unit → Option (List Int × Unit)) (c44 : (List Nat) × Int × Unit → Option (List Int × Unit)) (a0 : (List T41)) (a1 : (List Int)) (a2 : Int) (i18 : (List Int) → (Int × (List Int) × (List T44)) → Option (List T44 × Unit)) (i9 : Int → (List Int) → (List Int) → (List Nat) → (Int × Int) → Option (List T44 × Unit)) (k5 : (Int × (List Int) × (List Int) × (List Nat)) → Option (List T44 × Unit)) (s : (Int × (List Int) × (List Int) × (List Nat))) : Option (List T44 × Unit) :=
  match s with
  | (x5_1, x5_2, x5_3, x5_4) =>
  bif Decidable.decide (x5_1 < (↑x5_2.length : Int)) then
    bif Decidable.decide ((0 : Int) ≤ x5_1) && Decidable.decide (x5_1 < (↑x5_2.length : Int)) then
      bif Decidable.decide ((0 : Int) ≤ x5_2.getD x5_1.toNat (0 : Int)) && Decidable.decide (x5_2.getD x5_1.toNat (0 : Int) < (↑(List.length a1) : Int)) then
        i9 x5_1 x5_2 x5_3 x5_4 (List.getD a1 (Int.toNat (x5_2.getD x5_1.toNat (0 : Int))) (0 : Int), (0 : Int))
      else
        none
    else
      none
  else
    (c44 (x5_4, (16 : Int), ())).bind fun r1 =>
    i18 x5_3 ((0 : Int), r1.fst, [])
theorem rHops.b5_ev (c30 : (List T41) × (List Int) × Int × Unit → Option (List Int × Unit)) (c44 : (List Nat) × Int × Unit → Option (List Int × Unit)) (fuel : Nat) (k5 : St → Option (List T44 × Unit)) (a0 : (List T41)) (a1 : (List Int)) (a2 : Int) (s : (Int × (List Int) × (List Int) × (List Nat))) :
    bodyAt (rHops.E c30 c44) fuel 5 rHops.C (endK (rHops.E c30 c44) [.fresh ty44] Try.f32) k5 (rHops.mk5 a0 a1 a2 s) =
    rHops.b5 c30 c44 a0 a1 a2 (fun x5_3 t => loopAt (rHops.E c30 c44) fuel 18 rHops.C (endK (rHops.E c30 c44) [.fresh ty44] Try.f32) fuel (rHops.mk18 a0 a1 a2 x5_3 t)) (fun x5_1 x5_2 x5_3 x5_4 t => loopAt (rHops.E c30 c44) fuel 9 (rHops.C5 c30 c44 fuel) (rHops.K5 c30 c44 fuel k5) fuel (rHops.mk9 a0 a1 a2 x5_1 x5_2 x5_3 x5_4 t)) (fun t => k5 (rHops.mk5 a0 a1 a2 t)) s := by kernel_rfl
noncomputable def rHops.l5 (c30 : (List T41) × (List Int) × Int × Unit → Option (List Int × Unit)) (c44 : (List Nat) × Int × Unit → Option (List Int × Unit)) (fuel : Nat) (a0 : (List T41)) (a1 : (List Int)) (a2 : Int) (n : Nat) (s : (Int × (List Int) × (List Int) × (List Nat))) : Option (List T44 × Unit) :=
  iterN (fun k5 s => rHops.b5 c30 c44 a0 a1 a2 (fun x5_3 t => rHops.l18 c30 c44 fuel a0 a1 a2 x5_3 fuel t) (fun x5_1 x5_2 x5_3 x5_4 t => rHops.l9 c30 c44 fuel a0 a1 a2 x5_1 x5_2 x5_3 x5_4 k5 fuel t) k5 s) n s
theorem rHops.l5_ev (c30 : (List T41) × (List Int) × Int × Unit → Option (List Int × Unit)) (c44 : (List Nat) × Int × Unit → Option (List Int × Unit)) (fuel : Nat) (a0 : (List T41)) (a1 : (List Int)) (a2 : Int) (n : Nat) (s : (Int × (List Int) × (List Int) × (List Nat))) :
    loopAt (rHops.E c30 c44) fuel 5 rHops.C (endK (rHops.E c30 c44) [.fresh ty44] Try.f32) n (rHops.mk5 a0 a1 a2 s) = rHops.l5 c30 c44 fuel a0 a1 a2 n s :=
  loop_iter (fun k5 s => (rHops.b5_ev c30 c44 fuel k5 a0 a1 a2 s).trans (congrFun (congrFun (congr (congrArg (rHops.b5 c30 c44 a0 a1 a2) (funext fun x5_3 => funext fun t => rHops.l18_ev c30 c44 fuel a0 a1 a2 x5_3 fuel t)) (funext fun x5_1 => funext fun x5_2 => funext fun x5_3 => funext fun x5_4 => funext fun t => rHops.l9_ev c30 c44 fuel k5 a0 a1 a2 x5_1 x5_2 x5_3 x5_4 fuel t)) (fun t => k5 (rHops.mk5 a0 a1 a2 t))) s)) n s
noncomputable def rHops.b (c30 : (List T41) × (List Int) × Int × Unit → Option (List Int × Unit)) (c44 : (List Nat) × Int × Unit → Option (List Int × Unit)) (a0 : (List T41)) (a1 : (List Int)) (a2 : Int) (i5 : (Int × (List Int) × (List Int) × (List Nat)) → Option (List T44 × Unit)) : Option (List T44 × Unit) :=
  (c30 (a0, a1, a2, ())).bind fun r0 =>
  i5 ((0 : Int), r0.fst, [], [])
theorem rHops.b_ev (c30 : (List T41) × (List Int) × Int × Unit → Option (List Int × Unit)) (c44 : (List Nat) × Int × Unit → Option (List Int × Unit)) (fuel : Nat) (a0 : (List T41)) (a1 : (List Int)) (a2 : Int) : evalBody (rHops.E c30 c44) fuel Try.f32 rHops.C [ty23, ty24, ty2] [.fresh ty44] (a0, a1, a2, ()) =
    rHops.b c30 c44 a0 a1 a2 (fun t => loopAt (rHops.E c30 c44) fuel 5 rHops.C (endK (rHops.E c30 c44) [.fresh ty44] Try.f32) fuel (rHops.mk5 a0 a1 a2 t)) := by kernel_rfl
noncomputable def rHops.f (c30 : (List T41) × (List Int) × Int × Unit → Option (List Int × Unit)) (c44 : (List Nat) × Int × Unit → Option (List Int × Unit)) (fuel : Nat) (a0 : (List T41)) (a1 : (List Int)) (a2 : Int) : Option (List T44 × Unit) := rHops.b c30 c44 a0 a1 a2 (fun t => rHops.l5 c30 c44 fuel a0 a1 a2 fuel t)
theorem rHops.ev (c30 : (List T41) × (List Int) × Int × Unit → Option (List Int × Unit)) (c44 : (List Nat) × Int × Unit → Option (List Int × Unit)) (fuel : Nat) (a0 : (List T41)) (a1 : (List Int)) (a2 : Int) : evalBody (rHops.E c30 c44) fuel Try.f32 rHops.C [ty23, ty24, ty2] [.fresh ty44] (a0, a1, a2, ()) = rHops.f c30 c44 fuel a0 a1 a2 :=
  (rHops.b_ev c30 c44 fuel a0 a1 a2).trans (congrArg (rHops.b c30 c44 a0 a1 a2) (funext fun t => rHops.l5_ev c30 c44 fuel a0 a1 a2 fuel t))

/-! ### Equal -/
noncomputable def Equal.E : Env := envOf Try.prog (pick []) (pick []) (pick [(4, [(0, none), (1, none), (12, none), (13, none)])])
noncomputable def Equal.C : Code := Try.f33.body.getD .skip
noncomputable def Equal.mk4 (a0 : (List T44)) (a1 : (List T44)) (s : (Int × Int)) : St := { tmps := slots 26 0 [(0, (.one (.pure ty46 a0))), (1, (.one (.pure ty46 a1))), (12, (.one (.pure ty2 s.1))), (13, (.one (.pure ty2 s.2)))], st := [], next := 0 }
noncomputable def Equal.b4 (a0 : (List T44)) (a1 : (List T44)) (k4 : (Int × Int) → Option (Bool × Unit)) (s : (Int × Int)) : Option (Bool × Unit) :=
  match s with
  | (x4_2, x4_3) =>
  bif Decidable.decide (x4_3 < x4_2) then
    bif Decidable.decide ((0 : Int) ≤ x4_3) && Decidable.decide (x4_3 < (↑(List.length a0) : Int)) then
      bif Decidable.decide ((0 : Int) ≤ x4_3) && Decidable.decide (x4_3 < (↑(List.length a1) : Int)) then
        bif !((List.getD a0 x4_3.toNat BE.ty44.dflt).fst == (List.getD a1 x4_3.toNat BE.ty44.dflt).fst && (List.getD a0 x4_3.toNat BE.ty44.dflt).snd == (List.getD a1 x4_3.toNat BE.ty44.dflt).snd) then
          some (Bool.false, PUnit.unit)
        else
          k4 (x4_2, Go.IntKind.i64.wrap (x4_3 + (1 : Int)))
      else
        none
    else
      none
  else
    some (Bool.true, PUnit.unit)
theorem Equal.b4_ev (fuel : Nat) (k4 : St → Option (Bool × Unit)) (a0 : (List T44)) (a1 : (List T44)) (s : (Int × Int)) :
    bodyAt (Equal.E) fuel 4 Equal.C (endK (Equal.E) [.pure ty4] Try.f33) k4 (Equal.mk4 a0 a1 s) =
    Equal.b4 a0 a1 (fun t => k4 (Equal.mk4 a0 a1 t)) s := by kernel_rfl
noncomputable def Equal.l4 (fuel : Nat) (a0 : (List T44)) (a1 : (List T44)) (n : Nat) (s : (Int × Int)) : Option (Bool × Unit) :=
  iterN (fun k4 s => Equal.b4 a0 a1 k4 s) n s
theorem Equal.l4_ev (fuel : Nat) (a0 : (List T44)) (a1 : (List T44)) (n : Nat) (s : (Int × Int)) :
    loopAt (Equal.E) fuel 4 Equal.C (endK (Equal.E) [.pure ty4] Try.f33) n (Equal.mk4 a0 a1 s) = Equal.l4 fuel a0 a1 n s :=
  loop_iter (fun k4 s => (Equal.b4_ev fuel k4 a0 a1 s)) n s
noncomputable def Equal.b (a0 : (List T44)) (a1 : (List T44)) (i4 : (Int × Int) → Option (Bool × Unit)) : Option (Bool × Unit) :=
  bif (↑(List.length a0) : Int) != (↑(List.length a1) : Int) then
    some (Bool.false, PUnit.unit)
  else
    i4 ((↑(List.length a0) : Int), (0 : Int))
theorem Equal.b_ev (fuel : Nat) (a0 : (List T44)) (a1 : (List T44)) : evalBody (Equal.E) fuel Try.f33 Equal.C [ty46, ty46] [.pure ty4] (a0, a1, ()) =
    Equal.b a0 a1 (fun t => loopAt (Equal.E) fuel 4 Equal.C (endK (Equal.E) [.pure ty4] Try.f33) fuel (Equal.mk4 a0 a1 t)) := by kernel_rfl
noncomputable def Equal.f (fuel : Nat) (a0 : (List T44)) (a1 : (List T44)) : Option (Bool × Unit) := Equal.b a0 a1 (fun t => Equal.l4 fuel a0 a1 fuel t)
theorem Equal.ev (fuel : Nat) (a0 : (List T44)) (a1 : (List T44)) : evalBody (Equal.E) fuel Try.f33 Equal.C [ty46, ty46] [.pure ty4] (a0, a1, ()) = Equal.f fuel a0 a1 :=
  (Equal.b_ev fuel a0 a1).trans (congrArg (Equal.b a0 a1) (funext fun t => Equal.l4_ev fuel a0 a1 fuel t))

/-! ### stableCmp -/
noncomputable def stableCmp.E (c45 : (List Int) × Int × Int × ((List T41) × Unit) × Unit → Option ((Unit) × ((List Int) × Int × Int × ((List T41) × Unit) × Unit))) (c46 : (List Int) × Int × Int × Int × ((List T41) × Unit) × Unit → Option ((Unit) × ((List Int) × Int × Int × Int × ((List T41) × Unit) × Unit))) (c23 : Int × Int × (List T41) × Unit → Option ((Int × Unit) × (Int × Int × (List T41) × Unit))) : Env := envOf Try.prog (pick []) (pick [(45, extBy ⟨[.row ty2, .pure ty2, .pure ty2, .fn 23 [ty23]], [], c45⟩), (46, extBy ⟨[.row ty2, .pure ty2, .pure ty2, .pure ty2, .fn 23 [ty23]], [], c46⟩), (23, extBy ⟨[.pure ty2, .pure ty2, .con ty23], [.pure ty2], c23⟩)]) (pick [(2, [(0, none), (1, none), (2, none), (6, none), (7, none), (8, none)]), (7, [(0, none), (1, none), (2, none), (6, none)]), (9, [(0, none), (1, none), (2, none), (6, none), (7, none), (8, none)])])
noncomputable def stableCmp.C : Code := Try.f34.body.getD .skip
noncomputable def stableCmp.mk2 (a0 : (List Int)) (a1 : Int) (a2 : ((List T41) × Unit)) (s : (Int × Int × Int × (List Int) × (List T41))) : St := { tmps := slots 63 0 [(0, (.one (.own 1))), (1, (.one (.pure ty2 a1))), (2, (.one (.fn 23 [2]))), (6, (.one (.pure ty2 s.1))), (7, (.one (.pure ty2 s.2.1))), (8, (.one (.pure ty2 s.2.2.1)))], st := [(0, (.ghost [(.one (.own 1)), (.one (.pure ty2 a1)), (.one (.fn 23 [2]))])), (1, (.row ty2 s.2.2.2.1)), (2, (.cells [(.pure ty23 s.2.2.2.2)]))], next := 3 }
noncomputable def stableCmp.mk7 (a0 : (List Int)) (a1 : Int) (a2 : ((List T41) × Unit)) (s : (Int × (List Int) × (List T41))) : St := { tmps := slots 63 0 [(0, (.one (.own 1))), (1, (.one (.pure ty2 a1))), (2, (.one (.fn 23 [2]))), (6, (.one (.pure ty2 s.1)))], st := [(0, (.ghost [(.one (.own 1)), (.one (.pure ty2 a1)), (.one (.fn 23 [2]))])), (1, (.row ty2 s.2.1)), (2, (.cells [(.pure ty23 s.2.2)]))], next := 3 }
noncomputable def stableCmp.mk9 (a0 : (List Int)) (a1 : Int) (a2 : ((List T41) × Unit)) (x7_1 : Int) (s : (Int × Int × (List Int) × (List T41))) : St := { tmps := slots 63 0 [(0, (.one (.own 1))), (1, (.one (.pure ty2 a1))), (2, (.one (.fn 23 [2]))), (6, (.one (.pure ty2 x7_1))), (7, (.one (.pure ty2 s.1))), (8, (.one (.pure ty2 s.2.1)))], st := [(0, (.ghost [(.one (.own 1)), (.one (.pure ty2 a1)), (.one (.fn 23 [2]))])), (1, (.row ty2 s.2.2.1)), (2, (.cells [(.pure ty23 s.2.2.2)]))], next := 3 }
noncomputable def stableCmp.C7 (c45 : (List Int) × Int × Int × ((List T41) × Unit) × Unit → Option ((Unit) × ((List Int) × Int × Int × ((List T41) × Unit) × Unit))) (c46 : (List Int) × Int × Int × Int × ((List T41) × Unit) × Unit → Option ((Unit) × ((List Int) × Int × Int × Int × ((List T41) × Unit) × Unit))) (c23 : Int × Int × (List T41) × Unit → Option ((Int × Unit) × (Int × Int × (List T41) × Unit))) (fuel : Nat) : Code := codeAt (stableCmp.E c45 c46 c23) fuel 7 stableCmp.C
noncomputable def stableCmp.K7 (c45 : (List Int) × Int × Int × ((List T41) × Unit) × Unit → Option ((Unit) × ((List Int) × Int × Int × ((List T41) × Unit) × Unit))) (c46 : (List Int) × Int × Int × Int × ((List T41) × Unit) × Unit → Option ((Unit) × ((List Int) × Int × Int × Int × ((List T41) × Unit) × Unit))) (c23 : Int × Int × (List T41) × Unit → Option ((Int × Unit) × (Int × Int × (List T41) × Unit))) (fuel : Nat) (k7 : St → Option ((Unit) × ((List Int) × Int × ((List T41) × Unit) × Unit))) : Ex → St → Option ((Unit) × ((List Int) × Int × ((List T41) × Unit) × Unit)) := contAt (stableCmp.E c45 c46 c23) fuel 7 stableCmp.C (endBy (stableCmp.E c45 c46 c23) [.row ty2, .pure ty2, .fn 23 [ty23]] [] Try.f34) k7
noncomputable def stableCmp.b9 (c45 : (List Int) × Int × Int × ((List T41) × Unit) × Unit → Option ((Unit) × ((List Int) × Int × Int × ((List T41) × Unit) × Unit))) (c46 : (List Int) × Int × Int × Int × ((List T41) × Unit) × Unit → Option ((Unit) × ((List Int) × Int × Int × Int × ((List T41) × Unit) × Unit))) (c23 : Int × Int × (List T41) × Unit → Option ((Int × Unit) × (Int × Int × (List T41) × Unit))) (a0 : (List Int)) (a1 : Int) (a2 : ((List T41) × Unit)) (x7_1 : Int) (k7 : (Int × (List Int) × (List T41)) → Option ((Unit) × ((List Int) × Int × ((List T41) × Unit) × Unit))) (k9 : (Int × Int × (List Int) × (List T41)) → Option ((Unit) × ((List Int) × Int × ((List T41) × Unit) × Unit))) (s : (Int × Int × (List Int) × (List T41))) : Option ((Unit) × ((List Int) × Int × ((List T41) × Unit) × Unit)) :=
  match s with
  | (x9_2, x9_3, x9_5, x9_6) =>
  bif Decidable.decide (x9_3 ≤ a1) then
    (c46 (x9_5, x9_2, Go.IntKind.i64.wrap (x9_2 + x7_1), x9_3, (x9_6, ()), ())).bind fun r2 =>
    k9 (x9_3, Go.IntKind.i64.wrap (x9_3 + Go.IntKind.i64.wrap ((2 : Int) * x7_1)), r2.snd.fst, r2.snd.snd.snd.snd.snd.fst.fst)
  else
    bif Decidable.decide (Go.IntKind.i64.wrap (x9_2 + x7_1) < a1) then
      (c46 (x9_5, x9_2, Go.IntKind.i64.wrap (x9_2 + x7_1), a1, (x9_6, ()), ())).bind fun r1 =>
      k7 (Go.IntKind.i64.wrap (x7_1 * (2 : Int)), r1.snd.fst, r1.snd.snd.snd.snd.snd.fst.fst)
    else
      k7 (Go.IntKind.i64.wrap (x7_1 * (2 : Int)), x9_5, x9_6)
theorem stableCmp.b9_ev (c45 : (List Int) × Int × Int × ((List T41) × Unit) × Unit → Option ((Unit) × ((List Int) × Int × Int × ((List T41) × Unit) × Unit))) (c46 : (List Int) × Int × Int × Int × ((List T41) × Unit) × Unit → Option ((Unit) × ((List Int) × Int × Int × Int × ((List T41) × Unit) × Unit))) (c23 : Int × Int × (List T41) × Unit → Option ((Int × Unit) × (Int × Int × (List T41) × Unit))) (fuel : Nat) (k7 : St → Option ((Unit) × ((List Int) × Int × ((List T41) × Unit) × Unit))) (k9 : St → Option ((Unit) × ((List Int) × Int × ((List T41) × Unit) × Unit))) (a0 : (List Int)) (a1 : Int) (a2 : ((List T41) × Unit)) (x7_1 : Int) (s : (Int × Int × (List Int) × (List T41))) :
    bodyAt (stableCmp.E c45 c46 c23) fuel 9 (stableCmp.C7 c45 c46 c23 fuel) (stableCmp.K7 c45 c46 c23 fuel k7) k9 (stableCmp.mk9 a0 a1 a2 x7_1 s) =
    stableCmp.b9 c45 c46 c23 a0 a1 a2 x7_1 (fun t => k7 (stableCmp.mk7 a0 a1 a2 t)) (fun t => k9 (stableCmp.mk9 a0 a1 a2 x7_1 t)) s := by kernel_rfl
noncomputable def stableCmp.l9 (c45 : (List Int) × Int × Int × ((List T41) × Unit) × Unit → Option ((Unit) × ((List Int) × Int × Int × ((List T41) × Unit) × Unit))) (c46 : (List Int) × Int × Int × Int × ((List T41) × Unit) × Unit → Option ((Unit) × ((List Int) × Int × Int × Int × ((List T41) × Unit) × Unit))) (c23 : Int × Int × (List T41) × Unit → Option ((Int × Unit) × (Int × Int × (List T41) × Unit))) (fuel : Nat) (a0 : (List Int)) (a1 : Int) (a2 : ((List T41) × Unit)) (x7_1 : Int) (k7 : (Int × (List Int) × (List T41)) → Option ((Unit) × ((List Int) × Int × ((List T41) × Unit) × Unit))) (n : Nat) (s : (Int × Int × (List Int) × (List T41))) : Option ((Unit) × ((List Int) × Int × ((List T41) × Unit) × Unit)) :=
  iterN (fun k9 s => stableCmp.b9 c45 c46 c23 a0 a1 a2 x7_1 k7 k9 s) n s
theorem stableCmp.l9_ev (c45 : (List Int) × Int × Int × ((List T41) × Unit) × Unit → Option ((Unit) × ((List Int) × Int × Int × ((List T41) × Unit) × Unit))) (c46 : (List Int) × Int × Int × Int × ((List T41) × Unit) × Unit → Option ((Unit) × ((List Int) × Int × Int × Int × ((List T41) × Unit) × Unit))) (c23 : Int × Int × (List T41) × Unit → Option ((Int × Unit) × (Int × Int × (List T41) × Unit))) (fuel : Nat) (k7 : St → Option ((Unit) × ((List Int) × Int × ((List T41) × Unit) × Unit))) (a0 : (List Int)) (a1 : Int) (a2 : ((List T41) × Unit)) (x7_1 : Int) (n : Nat) (s : (Int × Int × (List Int) × (List T41))) :
    loopAt (stableCmp.E c45 c46 c23) fuel 9 (stableCmp.C7 c45 c46 c23 fuel) (stableCmp.K7 c45 c46 c23 fuel k7) n (stableCmp.mk9 a0 a1 a2 x7_1 s) = stableCmp.l9 c45 c46 c23 fuel a0 a1 a2 x7_1 (fun t => k7 (stableCmp.mk7 a0 a1 a2 t)) n s :=
  loop_iter (fun k9 s => (stableCmp.b9_ev c45 c46 c23 fuel k7 k9 a0 a1 a2 x7_1 s)) n s
noncomputable def stableCmp.b7 (c45 : (List Int) × Int × Int × ((List T41) × Unit) × Unit → Option ((Unit) × ((List Int) × Int × Int × ((List T41) × Unit) × Unit))) (c46 : (List Int) × Int × Int × Int × ((List T41) × Unit) × Unit → Option ((Unit) × ((List Int) × Int × Int × Int × ((List T41) × Unit) × Unit))) (c23 : Int × Int × (List T41) × Unit → Option ((Int × Unit) × (Int × Int × (List T41) × Unit))) (a0 : (List Int)) (a1 : Int) (a2 : ((List T41) × Unit)) (i9 : Int → (Int × Int × (List Int) × (List T41)) → Option ((Unit) × ((List Int) × Int × ((List T41) × Unit) × Unit))) (k7 : (Int × (List Int) × (List T41)) → Option ((Unit) × ((List Int) × Int × ((List T41) × Unit) × Unit))) (s : (Int × (List Int) × (List T41))) : Option ((Unit) × ((List Int) × Int × ((List T41) × Unit) × Unit)) :=
  match s with
  | (x7_1, x7_3, x7_4) =>
  bif Decidable.decide (x7_1 < a1) then
    i9 x7_1 ((0 : Int), Go.IntKind.i64.wrap ((2 : Int) * x7_1), x7_3, x7_4)
  else
    some ((), (x7_3, (a1, ((x7_4, ()), PUnit.unit))))
theorem stableCmp.b7_ev (c45 : (List Int) × Int × Int × ((List T41) × Unit) × Unit → Option ((Unit) × ((List Int) × Int × Int × ((List T41) × Unit) × Unit))) (c46 : (List Int) × Int × Int × Int × ((List T41) × Unit) × Unit → Option ((Unit) × ((List Int) × Int × Int × Int × ((List T41) × Unit) × Unit))) (c23 : Int × Int × (List T41) × Unit → Option ((Int × Unit) × (Int × Int × (List T41) × Unit))) (fuel : Nat) (k7 : St → Option ((Unit) × ((List Int) × Int × ((List T41) × Unit) × Unit))) (a0 : (List Int)) (a1 : Int) (a2 : ((List T41) × Unit)) (s : (Int × (List Int) × (List T41))) :
    bodyAt (stableCmp.E c45 c46 c23) fuel 7 stableCmp.C (endBy (stableCmp.E c45 c46 c23) [.row ty2, .pure ty2, .fn 23 [ty23]] [] Try.f34) k7 (stableCmp.mk7 a0 a1 a2 s) =
    stableCmp.b7 c45 c46 c23 a0 a1 a2 (fun x7_1 t => loopAt (stableCmp.E c45 c46 c23) fuel 9 (stableCmp.C7 c45 c46 c23 fuel) (stableCmp.K7 c45 c46 c23 fuel k7) fuel (stableCmp.mk9 a0 a1 a2 x7_1 t)) (fun t => k7 (stableCmp.mk7 a0 a1 a2 t)) s := by kernel_rfl
noncomputable def stableCmp.l7 (c45 : (List Int) × Int × Int × ((List T41) × Unit) × Unit → Option ((Unit) × ((List Int) × Int × Int × ((List T41) × Unit) × Unit))) (c46 : (List Int) × Int × Int × Int × ((List T41) × Unit) × Unit → Option ((Unit) × ((List Int) × Int × Int × Int × ((List T41) × Unit) × Unit))) (c23 : Int × Int × (List T41) × Unit → Option ((Int × Unit) × (Int × Int × (List T41) × Unit))) (fuel : Nat) (a0 : (List Int)) (a1 : Int) (a2 : ((List T41) × Unit)) (n : Nat) (s : (Int × (List Int) × (List T41))) : Option ((Unit) × ((List Int) × Int × ((List T41) × Unit) × Unit)) :=
  iterN (fun k7 s => stableCmp.b7 c45 c46 c23 a0 a1 a2 (fun x7_1 t => stableCmp.l9 c45 c46 c23 fuel a0 a1 a2 x7_1 k7 fuel t) k7 s) n s
theorem stableCmp.l7_ev (c45 : (List Int) × Int × Int × ((List T41) × Unit) × Unit → Option ((Unit) × ((List Int) × Int × Int × ((List T41) × Unit) × Unit))) (c46 : (List Int) × Int × Int × Int × ((List T41) × Unit) × Unit → Option ((Unit) × ((List Int) × Int × Int × Int × ((List T41) × Unit) × Unit))) (c23 : Int × Int × (List T41) × Unit → Option ((Int × Unit) × (Int × Int × (List T41) × Unit))) (fuel : Nat) (a0 : (List Int)) (a1 : Int) (a2 : ((List T41) × Unit)) (n : Nat) (s : (Int × (List Int) × (List T41))) :
    loopAt (stableCmp.E c45 c46 c23) fuel 7 stableCmp.C (endBy (stableCmp.E c45 c46 c23) [.row ty2, .pure ty2, .fn 23 [ty23]] [] Try.f34) n (stableCmp.mk7 a0 a1 a2 s) = stableCmp.l7 c45 c46 c23 fuel a0 a1 a2 n s :=
  loop_iter (fun k7 s => (stableCmp.b7_ev c45 c46 c23 fuel k7 a0 a1 a2 s).trans (congrFun (congrFun (congrArg (stableCmp.b7 c45 c46 c23 a0 a1 a2) (funext fun x7_1 => funext fun t => stableCmp.l9_ev c45 c46 c23 fuel k7 a0 a1 a2 x7_1 fuel t)) (fun t => k7 (stableCmp.mk7 a0 a1 a2 t))) s)) n s
noncomputable def stableCmp.b2 (c45 : (List Int) × Int × Int × ((List T41) × Unit) × Unit → Option ((Unit) × ((List Int) × Int × Int × ((List T41) × Unit) × Unit))) (c46 : (List Int) × Int × Int × Int × ((List T41) × Unit) × Unit → Option ((Unit) × ((List Int) × Int × Int × Int × ((List T41) × Unit) × Unit))) (c23 : Int × Int × (List T41) × Unit → Option ((Int × Unit) × (Int × Int × (List T41) × Unit))) (a0 : (List Int)) (a1 : Int) (a2 : ((List T41) × Unit)) (i7 : (Int × (List Int) × (List T41)) → Option ((Unit) × ((List Int) × Int × ((List T41) × Unit) × Unit))) (k2 : (Int × Int × Int × (List Int) × (List T41)) → Option ((Unit) × ((List Int) × Int × ((List T41) × Unit) × Unit))) (s : (Int × Int × Int × (List Int) × (List T41))) : Option ((Unit) × ((List Int) × Int × ((List T41) × Unit) × Unit)) :=
  match s with
  | (x2_1, x2_2, x2_3, x2_5, x2_6) =>
  bif Decidable.decide (x2_3 ≤ a1) then
    (c45 (x2_5, x2_2, x2_3, (x2_6, ()), ())).bind fun r3 =>
    k2 (x2_1, x2_3, Go.IntKind.i64.wrap (x2_3 + x2_1), r3.snd.fst, r3.snd.snd.snd.snd.fst.fst)
  else
    (c45 (x2_5, x2_2, a1, (x2_6, ()), ())).bind fun r0 =>
    i7 (x2_1, r0.snd.fst, r0.snd.snd.snd.snd.fst.fst)
theorem stableCmp.b2_ev (c45 : (List Int) × Int × Int × ((List T41) × Unit) × Unit → Option ((Unit) × ((List Int) × Int × Int × ((List T41) × Unit) × Unit))) (c46 : (List Int) × Int × Int × Int × ((List T41) × Unit) × Unit → Option ((Unit) × ((List Int) × Int × Int × Int × ((List T41) × Unit) × Unit))) (c23 : Int × Int × (List T41) × Unit → Option ((Int × Unit) × (Int × Int × (List T41) × Unit))) (fuel : Nat) (k2 : St → Option ((Unit) × ((List Int) × Int × ((List T41) × Unit) × Unit))) (a0 : (List Int)) (a1 : Int) (a2 : ((List T41) × Unit)) (s : (Int × Int × Int × (List Int) × (List T41))) :
    bodyAt (stableCmp.E c45 c46 c23) fuel 2 stableCmp.C (endBy (stableCmp.E c45 c46 c23) [.row ty2, .pure ty2, .fn 23 [ty23]] [] Try.f34) k2 (stableCmp.mk2 a0 a1 a2 s) =
    stableCmp.b2 c45 c46 c23 a0 a1 a2 (fun t => loopAt (stableCmp.E c45 c46 c23) fuel 7 stableCmp.C (endBy (stableCmp.E c45 c46 c23) [.row ty2, .pure ty2, .fn 23 [ty23]] [] Try.f34) fuel (stableCmp.mk7 a0 a1 a2 t)) (fun t => k2 (stableCmp.mk2 a0 a1 a2 t)) s := by kernel_rfl
noncomputable def stableCmp.l2 (c45 : (List Int) × Int × Int × ((List T41) × Unit) × Unit → Option ((Unit) × ((List Int) × Int × Int × ((List T41) × Unit) × Unit))) (c46 : (List Int) × Int × Int × Int × ((List T41) × Unit) × Unit → Option ((Unit) × ((List Int) × Int × Int × Int × ((List T41) × Unit) × Unit))) (c23 : Int × Int × (List T41) × Unit → Option ((Int × Unit) × (Int × Int × (List T41) × Unit))) (fuel : Nat) (a0 : (List Int)) (a1 : Int) (a2 : ((List T41) × Unit)) (n : Nat) (s : (Int × Int × Int × (List Int) × (List T41))) : Option ((Unit) × ((List Int) × Int × ((List T41) × Unit) × Unit)) :=
  iterN (fun k2 s => stableCmp.b2 c45 c46 c23 a0 a1 a2 (fun t => stableCmp.l7 c45 c46 c23 fuel a0 a1 a2 fuel t) k2 s) n s
theorem stableCmp.l2_ev (c45 : (List Int) × Int × Int × ((List T41) × Unit) × Unit → Option ((Unit) × ((List Int) × Int × Int × ((List T41) × Unit) × Unit))) (c46 : (List Int) × Int × Int × Int × ((List T41) × Unit) × Unit → Option ((Unit) × ((List Int) × Int × Int × Int × ((List T41) × Unit) × Unit))) (c23 : Int × Int × (List T41) × Unit → Option ((Int × Unit) × (Int × Int × (List T41) × Unit))) (fuel : Nat) (a0 : (List Int)) (a1 : Int) (a2 : ((List T41) × Unit)) (n : Nat) (s : (Int × Int × Int × (List Int) × (List T41))) :
    loopAt (stableCmp.E c45 c46 c23) fuel 2 stableCmp.C (endBy (stableCmp.E c45 c46 c23) [.row ty2, .pure ty2, .fn 23 [ty23]] [] Try.f34) n (stableCmp.mk2 a0 a1 a2 s) = stableCmp.l2 c45 c46 c23 fuel a0 a1 a2 n s :=
  loop_iter (fun k2 s => (stableCmp.b2_ev c45 c46 c23 fuel k2 a0 a1 a2 s).trans (congrFun (congrFun (congrArg (stableCmp.b2 c45 c46 c23 a0 a1 a2) (funext fun t => stableCmp.l7_ev c45 c46 c23 fuel a0 a1 a2 fuel t)) (fun t => k2 (stableCmp.mk2 a0 a1 a2 t))) s)) n s
noncomputable def stableCmp.b (c45 : (List Int) × Int × Int × ((List T41) × Unit) × Unit → Option ((Unit) × ((List Int) × Int × Int × ((List T41) × Unit) × Unit))) (c46 : (List Int) × Int × Int × Int × ((List T41) × Unit) × Unit → Option ((Unit) × ((List Int) × Int × Int × Int × ((List T41) × Unit) × Unit))) (c23 : Int × Int × (List T41) × Unit → Option ((Int × Unit) × (Int × Int × (List T41) × Unit))) (a0 : (List Int)) (a1 : Int) (a2 : ((List T41) × Unit)) (i2 : (Int × Int × Int × (List Int) × (List T41)) → Option ((Unit) × ((List Int) × Int × ((List T41) × Unit) × Unit))) : Option ((Unit) × ((List Int) × Int × ((List T41) × Unit) × Unit)) :=
  i2 ((20 : Int), (0 : Int), (20 : Int), a0, a2.fst)
theorem stableCmp.b_ev (c45 : (List Int) × Int × Int × ((List T41) × Unit) × Unit → Option ((Unit) × ((List Int) × Int × Int × ((List T41) × Unit) × Unit))) (c46 : (List Int) × Int × Int × Int × ((List T41) × Unit) × Unit → Option ((Unit) × ((List Int) × Int × Int × Int × ((List T41) × Unit) × Unit))) (c23 : Int × Int × (List T41) × Unit → Option ((Int × Unit) × (Int × Int × (List T41) × Unit))) (fuel : Nat) (a0 : (List Int)) (a1 : Int) (a2 : ((List T41) × Unit)) : evalBy (stableCmp.E c45 c46 c23) fuel Try.f34 stableCmp.C [.row ty2, .pure ty2, .fn 23 [ty23]] [] (a0, a1, a2, ()) =
    stableCmp.b c45 c46 c23 a0 a1 a2 (fun t => loopAt (stableCmp.E c45 c46 c23) fuel 2 stableCmp.C (endBy (stableCmp.E c45 c46 c23) [.row ty2, .pure ty2, .fn 23 [ty23]] [] Try.f34) fuel (stableCmp.mk2 a0 a1 a2 t)) := by kernel_rfl
noncomputable def stableCmp.f (c45 : (List Int) × Int × Int × ((List T41) × Unit) × Unit → Option ((Unit) × ((List Int) × Int × Int × ((List T41) × Unit) × Unit))) (c46 : (List Int) × Int × Int × Int × ((List T41) × Unit) × Unit → Option ((Unit) × ((List Int) × Int × Int × Int × ((List T41) × Unit) × Unit))) (c23 : Int × Int × (List T41) × Unit → Option ((Int × Unit) × (Int × Int × (List T41) × Unit))) (fuel : Nat) (a0 : (List Int)) (a1 : Int) (a2 : ((List T41) × Unit)) : Option ((Unit) × ((List Int) × Int × ((List T41) × Unit) × Unit)) := stableCmp.b c45 c46 c23 a0 a1 a2 (fun t => stableCmp.l2 c45 c46 c23 fuel a0 a1 a2 fuel t)
theorem stableCmp.ev (c45 : (List Int) × Int × Int × ((List T41) × Unit) × Unit → Option ((Unit) × ((List Int) × Int × Int × ((List T41) × Unit) × Unit))) (c46 : (List Int) × Int × Int × Int × ((List T41) × Unit) × Unit → Option ((Unit) × ((List Int) × Int × Int × Int × ((List T41) × Unit) × Unit))) (c23 : Int × Int × (List T41) × Unit → Option ((Int × Unit) × (Int × Int × (List T41) × Unit))) (fuel : Nat) (a0 : (List Int)) (a1 : Int) (a2 : ((List T41) × Unit)) : evalBy (stableCmp.E c45 c46 c23) fuel Try.f34 stableCmp.C [.row ty2, .pure ty2, .fn 23 [ty23]] [] (a0, a1, a2, ()) = stableCmp.f c45 c46 c23 fuel a0 a1 a2 :=
  (stableCmp.b_ev c45 c46 c23 fuel a0 a1 a2).trans (congrArg (stableCmp.b c45 c46 c23 a0 a1 a2) (funext fun t => stableCmp.l2_ev c45 c46 c23 fuel a0 a1 a2 fuel t))

/-! ### isNaN -/
noncomputable def isNaN.E : Env := envOf Try.prog (pick []) (pick []) (pick [])
noncomputable def isNaN.C : Code := Try.f35.body.getD .skip
noncomputable def isNaN.b (a0 : Int) : Option (Bool × Unit) :=
  some (a0 != a0, PUnit.unit)
theorem isNaN.b_ev (fuel : Nat) (a0 : Int) : evalBody (isNaN.E) fuel Try.f35 isNaN.C [ty33] [.pure ty4] (a0, ()) =
    isNaN.b a0 := by kernel_rfl
noncomputable def isNaN.f (fuel : Nat) (a0 : Int) : Option (Bool × Unit) := isNaN.b a0
theorem isNaN.ev (fuel : Nat) (a0 : Int) : evalBody (isNaN.E) fuel Try.f35 isNaN.C [ty33] [.pure ty4] (a0, ()) = isNaN.f fuel a0 :=
  (isNaN.b_ev fuel a0)

/-! ### beats -/
noncomputable def beats.E (c47 : T36 × Unit → Option (Int × Unit)) (c48 : (List T71) × Unit → Option (Int × Unit)) (c49 : T36 × T36 × Unit → Option (Bool × Unit)) (c50 : T36 × Unit → Option (Int × Unit)) (c51 : Nat × Nat × Unit → Option (Bool × Unit)) (c52 : T41 × T41 × Unit → Option (Bool × Unit)) : Env := envOf Try.prog (pick [(47, ⟨[ty36], [.pure ty33], c47⟩), (48, ⟨[ty34], [.pure ty2], c48⟩), (49, ⟨[ty36, ty36], [.pure ty4], c49⟩), (50, ⟨[ty36], [.pure ty33], c50⟩), (51, ⟨[ty40, ty40], [.pure ty4], c51⟩), (52, ⟨[ty41, ty41], [.pure ty4], c52⟩)]) (pick []) (pick [])
noncomputable def beats.C : Code := Try.f36.body.getD .skip
noncomputable def beats.b (c47 : T36 × Unit → Option (Int × Unit)) (c48 : (List T71) × Unit → Option (Int × Unit)) (c49 : T36 × T36 × Unit → Option (Bool × Unit)) (c50 : T36 × Unit → Option (Int × Unit)) (c51 : Nat × Nat × Unit → Option (Bool × Unit)) (c52 : T41 × T41 × Unit → Option (Bool × Unit)) (a0 : T41) (a1 : T41) (a2 : Int) : Option (Bool × Unit) :=
  bif a2 == (1 : Int) then
    (c47 (a0.fst.snd.snd.snd.snd, ())).bind fun r7 =>
    (c47 (a1.fst.snd.snd.snd.snd, ())).bind fun r8 =>
    some (Decidable.decide (r7.fst < r8.fst), PUnit.unit)
  else
    bif a2 == (2 : Int) then
      (c48 (a0.fst.snd.snd.snd.snd.snd.fst, ())).bind fun r5 =>
      (c48 (a1.fst.snd.snd.snd.snd.snd.fst, ())).bind fun r6 =>
      some (Decidable.decide (r5.fst > r6.fst), PUnit.unit)
    else
      bif a2 == (3 : Int) then
        some (Decidable.decide (a0.fst.snd.snd.snd.snd.fst > a1.fst.snd.snd.snd.snd.fst), PUnit.unit)
      else
        bif a2 == (4 : Int) then
          (c49 (a0.fst.snd.snd.snd.snd, a1.fst.snd.snd.snd.snd, ())).bind fun r2 =>
          bif r2.fst then
            (c50 (a0.fst.snd.snd.snd.snd, ())).bind fun r3 =>
            (c50 (a1.fst.snd.snd.snd.snd, ())).bind fun r4 =>
            some (Decidable.decide (r3.fst > r4.fst), PUnit.unit)
          else
            some (Bool.false, PUnit.unit)
        else
          bif a2 == (5 : Int) then
            bif a0.fst.snd.snd.snd.fst then
              some (!a1.fst.snd.snd.snd.fst, PUnit.unit)
            else
              some (Bool.false, PUnit.unit)
          else
            bif a2 == (6 : Int) then
              (c51 (a1.snd, a0.snd, ())).bind fun r1 =>
              some (r1.fst, PUnit.unit)
            else
              (c52 (a1, a0, ())).bind fun r0 =>
              some (r0.fst, PUnit.unit)
theorem beats.b_ev (c47 : T36 × Unit → Option (Int × Unit)) (c48 : (List T71) × Unit → Option (Int × Unit)) (c49 : T36 × T36 × Unit → Option (Bool × Unit)) (c50 : T36 × Unit → Option (Int × Unit)) (c51 : Nat × Nat × Unit → Option (Bool × Unit)) (c52 : T41 × T41 × Unit → Option (Bool × Unit)) (fuel : Nat) (a0 : T41) (a1 : T41) (a2 : Int) : evalBody (beats.E c47 c48 c49 c50 c51 c52) fuel Try.f36 beats.C [ty41, ty41, ty2] [.pure ty4] (a0, a1, a2, ()) =
    beats.b c47 c48 c49 c50 c51 c52 a0 a1 a2 := by kernel_rfl
noncomputable def beats.f (c47 : T36 × Unit → Option (Int × Unit)) (c48 : (List T71) × Unit → Option (Int × Unit)) (c49 : T36 × T36 × Unit → Option (Bool × Unit)) (c50 : T36 × Unit → Option (Int × Unit)) (c51 : Nat × Nat × Unit → Option (Bool × Unit)) (c52 : T41 × T41 × Unit → Option (Bool × Unit)) (fuel : Nat) (a0 : T41) (a1 : T41) (a2 : Int) : Option (Bool × Unit) := beats.b c47 c48 c49 c50 c51 c52 a0 a1 a2
theorem beats.ev (c47 : T36 × Unit → Option (Int × Unit)) (c48 : (List T71) × Unit → Option (Int × Unit)) (c49 : T36 × T36 × Unit → Option (Bool × Unit)) (c50 : T36 × Unit → Option (Int × Unit)) (c51 : Nat × Nat × Unit → Option (Bool × Unit)) (c52 : T41 × T41 × Unit → Option (Bool × Unit)) (fuel : Nat) (a0 : T41) (a1 : T41) (a2 : Int) : evalBody (beats.E c47 c48 c49 c50 c51 c52) fuel Try.f36 beats.C [ty41, ty41, ty2] [.pure ty4] (a0, a1, a2, ()) = beats.f c47 c48 c49 c50 c51 c52 fuel a0 a1 a2 :=
  (beats.b_ev c47 c48 c49 c50 c51 c52 fuel a0 a1 a2)

/-! ### counts -/
noncomputable def counts.E (c42 : Nat × Int × Unit → Option (Bool × Unit)) : Env := envOf Try.prog (pick [(42, ⟨[ty40, ty2], [.pure ty4], c42⟩)]) (pick []) (pick [(4, [(0, none), (3, none), (4, none), (12, none), (13, none), (14, none)]), (9, [(3, none), (4, none), (24, none), (25, none), (26, none)])])
noncomputable def counts.C : Code := Try.f40.body.getD .skip
noncomputable def counts.mk4 (a0 : (List Nat)) (s : (Bool × Int × Int × (List Nat))) : St := { tmps := slots 53 0 [(0, (.one (.pure ty65 a0))), (3, (.one (.own 0))), (4, (.one (.pure ty4 s.1))), (12, (.one (.pure ty65 a0))), (13, (.one (.pure ty2 s.2.1))), (14, (.one (.pure ty2 s.2.2.1)))], st := [(0, (.row ty40 s.2.2.2))], next := 1 }
noncomputable def counts.mk9 (a0 : (List Nat)) (x4_1 : Bool) (s : (Int × Int × (List Nat))) : St := { tmps := slots 53 0 [(3, (.one (.own 0))), (4, (.one (.pure ty4 x4_1))), (24, (.one (.pure ty65 a0))), (25, (.one (.pure ty2 s.1))), (26, (.one (.pure ty2 s.2.1)))], st := [(0, (.row ty40 s.2.2))], next := 1 }
noncomputable def counts.b9 (c42 : Nat × Int × Unit → Option (Bool × Unit)) (a0 : (List Nat)) (x4_1 : Bool) (k9 : (Int × Int × (List Nat)) → Option (List Nat × Unit)) (s : (Int × Int × (List Nat))) : Option (List Nat × Unit) :=
  match s with
  | (x9_2, x9_3, x9_4) =>
  bif Decidable.decide (x9_3 < x9_2) then
    bif Decidable.decide ((0 : Int) ≤ x9_3) && Decidable.decide (x9_3 < (↑(List.length a0) : Int)) then
      bif x4_1 then
        (c42 (List.getD a0 x9_3.toNat (0 : Nat), (1 : Int), ())).bind fun r0 =>
        bif r0.fst then
          bif Decidable.decide ((0 : Int) ≤ x9_3) && Decidable.decide (x9_3 < (↑x9_4.length : Int)) then
            k9 (x9_2, Go.IntKind.i64.wrap (x9_3 + (1 : Int)), x9_4.set x9_3.toNat (4607182418800017408 : Nat))
          else
            none
        else
          bif !x4_1 then
            bif Go.FloatKind.f64.format.order (List.getD a0 x9_3.toNat (0 : Nat)) (0 : Nat) == Option.some Ordering.gt then
              bif Decidable.decide ((0 : Int) ≤ x9_3) && Decidable.decide (x9_3 < (↑x9_4.length : Int)) then
                k9 (x9_2, Go.IntKind.i64.wrap (x9_3 + (1 : Int)), x9_4.set x9_3.toNat (List.getD a0 x9_3.toNat (0 : Nat)))
              else
                none
            else
              k9 (x9_2, Go.IntKind.i64.wrap (x9_3 + (1 : Int)), x9_4)
          else
            k9 (x9_2, Go.IntKind.i64.wrap (x9_3 + (1 : Int)), x9_4)
      else
        bif !x4_1 then
          bif Go.FloatKind.f64.format.order (List.getD a0 x9_3.toNat (0 : Nat)) (0 : Nat) == Option.some Ordering.gt then
            bif Decidable.decide ((0 : Int) ≤ x9_3) && Decidable.decide (x9_3 < (↑x9_4.length : Int)) then
              k9 (x9_2, Go.IntKind.i64.wrap (x9_3 + (1 : Int)), x9_4.set x9_3.toNat (List.getD a0 x9_3.toNat (0 : Nat)))
            else
              none
          else
            k9 (x9_2, Go.IntKind.i64.wrap (x9_3 + (1 : Int)), x9_4)
        else
          k9 (x9_2, Go.IntKind.i64.wrap (x9_3 + (1 : Int)), x9_4)
    else
      none
  else
    some (x9_4, PUnit.unit)
theorem counts.b9_ev (c42 : Nat × Int × Unit → Option (Bool × Unit)) (fuel : Nat) (k9 : St → Option (List Nat × Unit)) (a0 : (List Nat)) (x4_1 : Bool) (s : (Int × Int × (List Nat))) :
    bodyAt (counts.E c42) fuel 9 counts.C (endK (counts.E c42) [.fresh ty40] Try.f40) k9 (counts.mk9 a0 x4_1 s) =
    counts.b9 c42 a0 x4_1 (fun t => k9 (counts.mk9 a0 x4_1 t)) s := by kernel_rfl
noncomputable def counts.l9 (c42 : Nat × Int × Unit → Option (Bool × Unit)) (fuel : Nat) (a0 : (List Nat)) (x4_1 : Bool) (n : Nat) (s : (Int × Int × (List Nat))) : Option (List Nat × Unit) :=
  iterN (fun k9 s => counts.b9 c42 a0 x4_1 k9 s) n s
theorem counts.l9_ev (c42 : Nat × Int × Unit → Option (Bool × Unit)) (fuel : Nat) (a0 : (List Nat)) (x4_1 : Bool) (n : Nat) (s : (Int × Int × (List Nat))) :
    loopAt (counts.E c42) fuel 9 counts.C (endK (counts.E c42) [.fresh ty40] Try.f40) n (counts.mk9 a0 x4_1 s) = counts.l9 c42 fuel a0 x4_1 n s :=
  loop_iter (fun k9 s => (counts.b9_ev c42 fuel k9 a0 x4_1 s)) n s
noncomputable def counts.b4 (c42 : Nat × Int × Unit → Option (Bool × Unit)) (a0 : (List Nat)) (i9 : Bool → (Int × Int × (List Nat)) → Option (List Nat × Unit)) (k4 : (Bool × Int × Int × (List Nat)) → Option (List Nat × Unit)) (s : (Bool × Int × Int × (List Nat))) : Option (List Nat × Unit) :=
  match s with
  | (x4_1, x4_3, x4_4, x4_5) =>
  bif Decidable.decide (x4_4 < x4_3) then
    bif Decidable.decide ((0 : Int) ≤ x4_4) && Decidable.decide (x4_4 < (↑(List.length a0) : Int)) then
      bif x4_1 then
        k4 (Bool.true, x4_3, Go.IntKind.i64.wrap (x4_4 + (1 : Int)), x4_5)
      else
        (c42 (List.getD a0 x4_4.toNat (0 : Nat), (1 : Int), ())).bind fun r1 =>
        k4 (r1.fst, x4_3, Go.IntKind.i64.wrap (x4_4 + (1 : Int)), x4_5)
    else
      none
  else
    i9 x4_1 ((↑(List.length a0) : Int), (0 : Int), x4_5)
theorem counts.b4_ev (c42 : Nat × Int × Unit → Option (Bool × Unit)) (fuel : Nat) (k4 : St → Option (List Nat × Unit)) (a0 : (List Nat)) (s : (Bool × Int × Int × (List Nat))) :
    bodyAt (counts.E c42) fuel 4 counts.C (endK (counts.E c42) [.fresh ty40] Try.f40) k4 (counts.mk4 a0 s) =
    counts.b4 c42 a0 (fun x4_1 t => loopAt (counts.E c42) fuel 9 counts.C (endK (counts.E c42) [.fresh ty40] Try.f40) fuel (counts.mk9 a0 x4_1 t)) (fun t => k4 (counts.mk4 a0 t)) s := by kernel_rfl
noncomputable def counts.l4 (c42 : Nat × Int × Unit → Option (Bool × Unit)) (fuel : Nat) (a0 : (List Nat)) (n : Nat) (s : (Bool × Int × Int × (List Nat))) : Option (List Nat × Unit) :=
  iterN (fun k4 s => counts.b4 c42 a0 (fun x4_1 t => counts.l9 c42 fuel a0 x4_1 fuel t) k4 s) n s
theorem counts.l4_ev (c42 : Nat × Int × Unit → Option (Bool × Unit)) (fuel : Nat) (a0 : (List Nat)) (n : Nat) (s : (Bool × Int × Int × (List Nat))) :
    loopAt (counts.E c42) fuel 4 counts.C (endK (counts.E c42) [.fresh ty40] Try.f40) n (counts.mk4 a0 s) = counts.l4 c42 fuel a0 n s :=
  loop_iter (fun k4 s => (counts.b4_ev c42 fuel k4 a0 s).trans (congrFun (congrFun (congrArg (counts.b4 c42 a0) (funext fun x4_1 => funext fun t => counts.l9_ev c42 fuel a0 x4_1 fuel t)) (fun t => k4 (counts.mk4 a0 t))) s)) n s
noncomputable def counts.b (c42 : Nat × Int × Unit → Option (Bool × Unit)) (a0 : (List Nat)) (i4 : (Bool × Int × Int × (List Nat)) → Option (List Nat × Unit)) : Option (List Nat × Unit) :=
  bif Decidable.decide ((0 : Int) ≤ (↑(List.length a0) : Int)) && Decidable.decide ((↑(List.length a0) : Int) ≤ (↑(List.length a0) : Int)) && Decidable.decide ((↑(List.length a0) : Int) * (↑(8 : Nat) : Int) ≤ (↑Go.Ev.maxBytes : Int)) && Decidable.decide ((↑(List.length a0) : Int) ≤ (9223372036854775807 : Int)) then
    i4 (Bool.false, (↑(List.length a0) : Int), (0 : Int), List.replicate (↑(List.length a0) : Int).toNat (0 : Nat))
  else
    none
theorem counts.b_ev (c42 : Nat × Int × Unit → Option (Bool × Unit)) (fuel : Nat) (a0 : (List Nat)) : evalBody (counts.E c42) fuel Try.f40 counts.C [ty65] [.fresh ty40] (a0, ()) =
    counts.b c42 a0 (fun t => loopAt (counts.E c42) fuel 4 counts.C (endK (counts.E c42) [.fresh ty40] Try.f40) fuel (counts.mk4 a0 t)) := by kernel_rfl
noncomputable def counts.f (c42 : Nat × Int × Unit → Option (Bool × Unit)) (fuel : Nat) (a0 : (List Nat)) : Option (List Nat × Unit) := counts.b c42 a0 (fun t => counts.l4 c42 fuel a0 fuel t)
theorem counts.ev (c42 : Nat × Int × Unit → Option (Bool × Unit)) (fuel : Nat) (a0 : (List Nat)) : evalBody (counts.E c42) fuel Try.f40 counts.C [ty65] [.fresh ty40] (a0, ()) = counts.f c42 fuel a0 :=
  (counts.b_ev c42 fuel a0).trans (congrArg (counts.b c42 a0) (funext fun t => counts.l4_ev c42 fuel a0 fuel t))

/-! ### sum -/
noncomputable def sum.E : Env := envOf Try.prog (pick []) (pick []) (pick [(3, [(3, none), (6, none), (7, none), (8, none)])])
noncomputable def sum.C : Code := Try.f41.body.getD .skip
noncomputable def sum.mk3 (a0 : (List Nat)) (s : (Nat × Int × Int)) : St := { tmps := slots 17 0 [(3, (.one (.pure ty40 s.1))), (6, (.one (.pure ty65 a0))), (7, (.one (.pure ty2 s.2.1))), (8, (.one (.pure ty2 s.2.2)))], st := [], next := 0 }
noncomputable def sum.b3 (a0 : (List Nat)) (k3 : (Nat × Int × Int) → Option (Nat × Unit)) (s : (Nat × Int × Int)) : Option (Nat × Unit) :=
  match s with
  | (x3_0, x3_2, x3_3) =>
  bif Decidable.decide (x3_3 < x3_2) then
    bif Decidable.decide ((0 : Int) ≤ x3_3) && Decidable.decide (x3_3 < (↑(List.length a0) : Int)) then
      bif (Go.FloatKind.f64.format.add x3_0 (List.getD a0 x3_3.toNat (0 : Nat))).isSome then
        k3 ((Go.FloatKind.f64.format.add x3_0 (List.getD a0 x3_3.toNat (0 : Nat))).getD (0 : Nat), x3_2, Go.IntKind.i64.wrap (x3_3 + (1 : Int)))
      else
        none
    else
      none
  else
    some (x3_0, PUnit.unit)
theorem sum.b3_ev (fuel : Nat) (k3 : St → Option (Nat × Unit)) (a0 : (List Nat)) (s : (Nat × Int × Int)) :
    bodyAt (sum.E) fuel 3 sum.C (endK (sum.E) [.pure ty40] Try.f41) k3 (sum.mk3 a0 s) =
    sum.b3 a0 (fun t => k3 (sum.mk3 a0 t)) s := by kernel_rfl
noncomputable def sum.l3 (fuel : Nat) (a0 : (List Nat)) (n : Nat) (s : (Nat × Int × Int)) : Option (Nat × Unit) :=
  iterN (fun k3 s => sum.b3 a0 k3 s) n s
theorem sum.l3_ev (fuel : Nat) (a0 : (List Nat)) (n : Nat) (s : (Nat × Int × Int)) :
    loopAt (sum.E) fuel 3 sum.C (endK (sum.E) [.pure ty40] Try.f41) n (sum.mk3 a0 s) = sum.l3 fuel a0 n s :=
  loop_iter (fun k3 s => (sum.b3_ev fuel k3 a0 s)) n s
noncomputable def sum.b (a0 : (List Nat)) (i3 : (Nat × Int × Int) → Option (Nat × Unit)) : Option (Nat × Unit) :=
  i3 ((0 : Nat), (↑(List.length a0) : Int), (0 : Int))
theorem sum.b_ev (fuel : Nat) (a0 : (List Nat)) : evalBody (sum.E) fuel Try.f41 sum.C [ty65] [.pure ty40] (a0, ()) =
    sum.b a0 (fun t => loopAt (sum.E) fuel 3 sum.C (endK (sum.E) [.pure ty40] Try.f41) fuel (sum.mk3 a0 t)) := by kernel_rfl
noncomputable def sum.f (fuel : Nat) (a0 : (List Nat)) : Option (Nat × Unit) := sum.b a0 (fun t => sum.l3 fuel a0 fuel t)
theorem sum.ev (fuel : Nat) (a0 : (List Nat)) : evalBody (sum.E) fuel Try.f41 sum.C [ty65] [.pure ty40] (a0, ()) = sum.f fuel a0 :=
  (sum.b_ev fuel a0).trans (congrArg (sum.b a0) (funext fun t => sum.l3_ev fuel a0 fuel t))

/-! ### IsInf -/
noncomputable def IsInf.E (c56 : Nat × Unit → Option (Nat × Unit)) : Env := envOf Try.prog (pick [(56, ⟨[ty40], [.pure ty40], c56⟩)]) (pick []) (pick [])
noncomputable def IsInf.C : Code := Try.f42.body.getD .skip
noncomputable def IsInf.b (c56 : Nat × Unit → Option (Nat × Unit)) (a0 : Nat) (a1 : Int) : Option (Bool × Unit) :=
  bif a1 == (0 : Int) then
    (c56 (a0, ())).bind fun r0 =>
    some (Go.FloatKind.f64.format.order r0.fst (9218868437227405311 : Nat) == Option.some Ordering.gt, PUnit.unit)
  else
    bif Decidable.decide (a1 < (0 : Int)) then
      none
    else
      some (Go.FloatKind.f64.format.order a0 (9218868437227405311 : Nat) == Option.some Ordering.gt, PUnit.unit)
theorem IsInf.b_ev (c56 : Nat × Unit → Option (Nat × Unit)) (fuel : Nat) (a0 : Nat) (a1 : Int) : evalBody (IsInf.E c56) fuel Try.f42 IsInf.C [ty40, ty2] [.pure ty4] (a0, a1, ()) =
    IsInf.b c56 a0 a1 := by kernel_rfl
noncomputable def IsInf.f (c56 : Nat × Unit → Option (Nat × Unit)) (fuel : Nat) (a0 : Nat) (a1 : Int) : Option (Bool × Unit) := IsInf.b c56 a0 a1
theorem IsInf.ev (c56 : Nat × Unit → Option (Nat × Unit)) (fuel : Nat) (a0 : Nat) (a1 : Int) : evalBody (IsInf.E c56) fuel Try.f42 IsInf.C [ty40, ty2] [.pure ty4] (a0, a1, ()) = IsInf.f c56 fuel a0 a1 :=
  (IsInf.b_ev c56 fuel a0 a1)

/-! ### rLeft -/
noncomputable def rLeft.E (c57 : T41 × T41 × Int × Unit → Option (Bool × Unit)) : Env := envOf Try.prog (pick [(57, ⟨[ty41, ty41, ty2], [.pure ty4], c57⟩)]) (pick []) (pick [(3, [(0, none), (1, none), (5, some ty2), (6, none)]), (7, [(0, none), (1, none), (5, none), (7, none)]), (11, [(0, none), (1, none), (5, none), (7, none), (8, some ty2), (9, none)]), (15, [(0, none), (1, none), (5, none), (7, none), (8, none), (9, none), (10, none), (11, none)])])
noncomputable def rLeft.C : Code := Try.f43.body.getD .skip
noncomputable def rLeft.mk3 (a0 : (List T41)) (a1 : Int) (s : (Int × (List Int))) : St := { tmps := slots 82 0 [(0, (.one (.pure ty23 a0))), (1, (.one (.pure ty2 a1))), (5, (.one (.own 0))), (6, (.one (.pure ty2 s.1)))], st := [(0, (.row ty2 s.2))], next := 1 }
noncomputable def rLeft.mk7 (a0 : (List T41)) (a1 : Int) (s : (Int × (List Int))) : St := { tmps := slots 82 0 [(0, (.one (.pure ty23 a0))), (1, (.one (.pure ty2 a1))), (5, (.one (.own 0))), (7, (.one (.pure ty2 s.1)))], st := [(0, (.row ty2 s.2))], next := 1 }
noncomputable def rLeft.mk11 (a0 : (List T41)) (a1 : Int) (x7_2 : Int) (x7_3 : (List Int)) (s : (Int × (List Int))) : St := { tmps := slots 82 0 [(0, (.one (.pure ty23 a0))), (1, (.one (.pure ty2 a1))), (5, (.one (.own 0))), (7, (.one (.pure ty2 x7_2))), (8, (.one (.own 1))), (9, (.one (.pure ty2 s.1)))], st := [(0, (.row ty2 x7_3)), (1, (.row ty2 s.2))], next := 2 }
noncomputable def rLeft.mk15 (a0 : (List T41)) (a1 : Int) (x7_2 : Int) (x7_3 : (List Int)) (x11_3 : Int) (x11_5 : (List Int)) (s : (Bool × Int)) : St := { tmps := slots 82 0 [(0, (.one (.pure ty23 a0))), (1, (.one (.pure ty2 a1))), (5, (.one (.own 0))), (7, (.one (.pure ty2 x7_2))), (8, (.one (.own 1))), (9, (.one (.pure ty2 x11_3))), (10, (.one (.pure ty4 s.1))), (11, (.one (.pure ty2 s.2)))], st := [(0, (.row ty2 x7_3)), (1, (.row ty2 x11_5))], next := 2 }
noncomputable def rLeft.C7 (c57 : T41 × T41 × Int × Unit → Option (Bool × Unit)) (fuel : Nat) : Code := codeAt (rLeft.E c57) fuel 7 rLeft.C
noncomputable def rLeft.K7 (c57 : T41 × T41 × Int × Unit → Option (Bool × Unit)) (fuel : Nat) (k7 : St → Option (List Int × Unit)) : Ex → St → Option (List Int × Unit) := contAt (rLeft.E c57) fuel 7 rLeft.C (endK (rLeft.E c57) [.fresh ty2] Try.f43) k7
noncomputable def rLeft.C11 (c57 : T41 × T41 × Int × Unit → Option (Bool × Unit)) (fuel : Nat) : Code := codeAt (rLeft.E c57) fuel 11 (rLeft.C7 c57 fuel)
noncomputable def rLeft.K11 (c57 : T41 × T41 × Int × Unit → Option (Bool × Unit)) (fuel : Nat) (k7 : St → Option (List Int × Unit)) (k11 : St → Option (List Int × Unit)) : Ex → St → Option (List Int × Unit) := contAt (rLeft.E c57) fuel 11 (rLeft.C7 c57 fuel) (rLeft.K7 c57 fuel k7) k11
noncomputable def rLeft.b15 (c57 : T41 × T41 × Int × Unit → Option (Bool × Unit)) (a0 : (List T41)) (a1 : Int) (x7_2 : Int) (x7_3 : (List Int)) (x11_3 : Int) (x11_5 : (List Int)) (k11 : (Int × (List Int)) → Option (List Int × Unit)) (k7 : (Int × (List Int)) → Option (List Int × Unit)) (k15 : (Bool × Int) → Option (List Int × Unit)) (s : (Bool × Int)) : Option (List Int × Unit) :=
  match s with
  | (x15_4, x15_5) =>
  bif Decidable.decide (x15_5 < (↑x7_3.length : Int)) then
    bif x15_4 then
      k15 (Bool.true, Go.IntKind.i64.wrap (x15_5 + (1 : Int)))
    else
      bif Decidable.decide ((0 : Int) ≤ x11_3) && Decidable.decide (x11_3 < (↑x7_3.length : Int)) then
        bif Decidable.decide ((0 : Int) ≤ x7_3.getD x11_3.toNat (0 : Int)) && Decidable.decide (x7_3.getD x11_3.toNat (0 : Int) < (↑(List.length a0) : Int)) then
          bif Decidable.decide ((0 : Int) ≤ x15_5) && Decidable.decide (x15_5 < (↑x7_3.length : Int)) then
            bif Decidable.decide ((0 : Int) ≤ x7_3.getD x15_5.toNat (0 : Int)) && Decidable.decide (x7_3.getD x15_5.toNat (0 : Int) < (↑(List.length a0) : Int)) then
              (c57 (List.getD a0 (Int.toNat (x7_3.getD x11_3.toNat (0 : Int))) BE.ty41.dflt, List.getD a0 (Int.toNat (x7_3.getD x15_5.toNat (0 : Int))) BE.ty41.dflt, x7_2, ())).bind fun r0 =>
              k15 (r0.fst, Go.IntKind.i64.wrap (x15_5 + (1 : Int)))
            else
              none
          else
            none
        else
          none
      else
        none
  else
    bif !x15_4 then
      bif Decidable.decide ((0 : Int) ≤ x11_3) && Decidable.decide (x11_3 < (↑x7_3.length : Int)) then
        bif Decidable.decide ((x11_5.length + (1 : Nat)) * (8 : Nat) ≤ Go.Ev.maxBytes) then
          k11 (Go.IntKind.i64.wrap (x11_3 + (1 : Int)), x11_5 ++ [x7_3.getD x11_3.toNat (0 : Int)])
        else
          none
      else
        none
    else
      k11 (Go.IntKind.i64.wrap (x11_3 + (1 : Int)), x11_5)
theorem rLeft.b15_ev (c57 : T41 × T41 × Int × Unit → Option (Bool × Unit)) (fuel : Nat) (k11 : St → Option (List Int × Unit)) (k7 : St → Option (List Int × Unit)) (k15 : St → Option (List Int × Unit)) (a0 : (List T41)) (a1 : Int) (x7_2 : Int) (x7_3 : (List Int)) (x11_3 : Int) (x11_5 : (List Int)) (s : (Bool × Int)) :
    bodyAt (rLeft.E c57) fuel 15 (rLeft.C11 c57 fuel) (rLeft.K11 c57 fuel k7 k11) k15 (rLeft.mk15 a0 a1 x7_2 x7_3 x11_3 x11_5 s) =
    rLeft.b15 c57 a0 a1 x7_2 x7_3 x11_3 x11_5 (fun t => k11 (rLeft.mk11 a0 a1 x7_2 x7_3 t)) (fun t => k7 (rLeft.mk7 a0 a1 t)) (fun t => k15 (rLeft.mk15 a0 a1 x7_2 x7_3 x11_3 x11_5 t)) s := by kernel_rfl
noncomputable def rLeft.l15 (c57 : T41 × T41 × Int × Unit → Option (Bool × Unit)) (fuel : Nat) (a0 : (List T41)) (a1 : Int) (x7_2 : Int) (x7_3 : (List Int)) (x11_3 : Int) (x11_5 : (List Int)) (k11 : (Int × (List Int)) → Option (List Int × Unit)) (k7 : (Int × (List Int)) → Option (List Int × Unit)) (n : Nat) (s : (Bool × Int)) : Option (List Int × Unit) :=
  iterN (fun k15 s => rLeft.b15 c57 a0 a1 x7_2 x7_3 x11_3 x11_5 k11 k7 k15 s) n s
theorem rLeft.l15_ev (c57 : T41 × T41 × Int × Unit → Option (Bool × Unit)) (fuel : Nat) (k11 : St → Option (List Int × Unit)) (k7 : St → Option (List Int × Unit)) (a0 : (List T41)) (a1 : Int) (x7_2 : Int) (x7_3 : (List Int)) (x11_3 : Int) (x11_5 : (List Int)) (n : Nat) (s : (Bool × Int)) :
    loopAt (rLeft.E c57) fuel 15 (rLeft.C11 c57 fuel) (rLeft.K11 c57 fuel k7 k11) n (rLeft.mk15 a0 a1 x7_2 x7_3 x11_3 x11_5 s) = rLeft.l15 c57 fuel a0 a1 x7_2 x7_3 x11_3 x11_5 (fun t => k11 (rLeft.mk11 a0 a1 x7_2 x7_3 t)) (fun t => k7 (rLeft.mk7 a0 a1 t)) n s :=
  loop_iter (fun k15 s => (rLeft.b15_ev c57 fuel k11 k7 k15 a0 a1 x7_2 x7_3 x11_3 x11_5 s)) n s
noncomputable def rLeft.b11 (c57 : T41 × T41 × Int × Unit → Option (Bool × Unit)) (a0 : (List T41)) (a1 : Int) (x7_2 : Int) (x7_3 : (List Int)) (i15 : Int → (List Int) → (Bool × Int) → Option (List Int × Unit)) (k7 : (Int × (List Int)) → Option (List Int × Unit)) (k11 : (Int × (List Int)) → Option (List Int × Unit)) (s : (Int × (List Int))) : Option (List Int × Unit) :=
  match s with
  | (x11_3, x11_5) =>
  bif Decidable.decide (x11_3 < (↑x7_3.length : Int)) then
    i15 x11_3 x11_5 (Bool.false, (0 : Int))
  else
    k7 (Go.IntKind.i64.wrap (x7_2 + (1 : Int)), x11_5)
theorem rLeft.b11_ev (c57 : T41 × T41 × Int × Unit → Option (Bool × Unit)) (fuel : Nat) (k7 : St → Option (List Int × Unit)) (k11 : St → Option (List Int × Unit)) (a0 : (List T41)) (a1 : Int) (x7_2 : Int) (x7_3 : (List Int)) (s : (Int × (List Int))) :
    bodyAt (rLeft.E c57) fuel 11 (rLeft.C7 c57 fuel) (rLeft.K7 c57 fuel k7) k11 (rLeft.mk11 a0 a1 x7_2 x7_3 s) =
    rLeft.b11 c57 a0 a1 x7_2 x7_3 (fun x11_3 x11_5 t => loopAt (rLeft.E c57) fuel 15 (rLeft.C11 c57 fuel) (rLeft.K11 c57 fuel k7 k11) fuel (rLeft.mk15 a0 a1 x7_2 x7_3 x11_3 x11_5 t)) (fun t => k7 (rLeft.mk7 a0 a1 t)) (fun t => k11 (rLeft.mk11 a0 a1 x7_2 x7_3 t)) s := by kernel_rfl
noncomputable def rLeft.l11 (c57 : T41 × T41 × Int × Unit → Option (Bool × Unit)) (fuel : Nat) (a0 : (List T41)) (a1 : Int) (x7_2 : Int) (x7_3 : (List Int)) (k7 : (Int × (List Int)) → Option (List Int × Unit)) (n : Nat) (s : (Int × (List Int))) : Option (List Int × Unit) :=
  iterN (fun k11 s => rLeft.b11 c57 a0 a1 x7_2 x7_3 (fun x11_3 x11_5 t => rLeft.l15 c57 fuel a0 a1 x7_2 x7_3 x11_3 x11_5 k11 k7 fuel t) k7 k11 s) n s
theorem rLeft.l11_ev (c57 : T41 × T41 × Int × Unit → Option (Bool × Unit)) (fuel : Nat) (k7 : St → Option (List Int × Unit)) (a0 : (List T41)) (a1 : Int) (x7_2 : Int) (x7_3 : (List Int)) (n : Nat) (s : (Int × (List Int))) :
    loopAt (rLeft.E c57) fuel 11 (rLeft.C7 c57 fuel) (rLeft.K7 c57 fuel k7) n (rLeft.mk11 a0 a1 x7_2 x7_3 s) = rLeft.l11 c57 fuel a0 a1 x7_2 x7_3 (fun t => k7 (rLeft.mk7 a0 a1 t)) n s :=
  loop_iter (fun k11 s => (rLeft.b11_ev c57 fuel k7 k11 a0 a1 x7_2 x7_3 s).trans (congrFun (congrFun (congrFun (congrArg (rLeft.b11 c57 a0 a1 x7_2 x7_3) (funext fun x11_3 => funext fun x11_5 => funext fun t => rLeft.l15_ev c57 fuel k11 k7 a0 a1 x7_2 x7_3 x11_3 x11_5 fuel t)) (fun t => k7 (rLeft.mk7 a0 a1 t))) (fun t => k11 (rLeft.mk11 a0 a1 x7_2 x7_3 t))) s)) n s
noncomputable def rLeft.b7 (c57 : T41 × T41 × Int × Unit → Option (Bool × Unit)) (a0 : (List T41)) (a1 : Int) (i11 : Int → (List Int) → (Int × (List Int)) → Option (List Int × Unit)) (k7 : (Int × (List Int)) → Option (List Int × Unit)) (s : (Int × (List Int))) : Option (List Int × Unit) :=
  match s with
  | (x7_2, x7_3) =>
  bif Decidable.decide (x7_2 ≤ a1) then
    bif Decidable.decide (x7_2 ≤ (7 : Int)) then
      i11 x7_2 x7_3 ((0 : Int), [])
    else
      bif Decidable.decide (a1 ≥ (7 : Int)) then
        bif Decidable.decide ((↑x7_3.length : Int) > (1 : Int)) then
          bif Decidable.decide ((1 : Int) ≤ (↑x7_3.length : Int)) then
            some (List.take (1 : Nat) (List.drop (0 : Nat) x7_3), PUnit.unit)
          else
            none
        else
          some (x7_3, PUnit.unit)
      else
        some (x7_3, PUnit.unit)
  else
    bif Decidable.decide (a1 ≥ (7 : Int)) then
      bif Decidable.decide ((↑x7_3.length : Int) > (1 : Int)) then
        bif Decidable.decide ((1 : Int) ≤ (↑x7_3.length : Int)) then
          some (List.take (1 : Nat) (List.drop (0 : Nat) x7_3), PUnit.unit)
        else
          none
      else
        some (x7_3, PUnit.unit)
    else
      some (x7_3, PUnit.unit)
theorem rLeft.b7_ev (c57 : T41 × T41 × Int × Unit → Option (Bool × Unit)) (fuel : Nat) (k7 : St → Option (List Int × Unit)) (a0 : (List T41)) (a1 : Int) (s : (Int × (List Int))) :
    bodyAt (rLeft.E c57) fuel 7 rLeft.C (endK (rLeft.E c57) [.fresh ty2] Try.f43) k7 (rLeft.mk7 a0 a1 s) =
    rLeft.b7 c57 a0 a1 (fun x7_2 x7_3 t => loopAt (rLeft.E c57) fuel 11 (rLeft.C7 c57 fuel) (rLeft.K7 c57 fuel k7) fuel (rLeft.mk11 a0 a1 x7_2 x7_3 t)) (fun t => k7 (rLeft.mk7 a0 a1 t)) s := by kernel_rfl
noncomputable def rLeft.l7 (c57 : T41 × T41 × Int × Unit → Option (Bool × Unit)) (fuel : Nat) (a0 : (List T41)) (a1 : Int) (n : Nat) (s : (Int × (List Int))) : Option (List Int × Unit) :=
  iterN (fun k7 s => rLeft.b7 c57 a0 a1 (fun x7_2 x7_3 t => rLeft.l11 c57 fuel a0 a1 x7_2 x7_3 k7 fuel t) k7 s) n s
theorem rLeft.l7_ev (c57 : T41 × T41 × Int × Unit → Option (Bool × Unit)) (fuel : Nat) (a0 : (List T41)) (a1 : Int) (n : Nat) (s : (Int × (List Int))) :
    loopAt (rLeft.E c57) fuel 7 rLeft.C (endK (rLeft.E c57) [.fresh ty2] Try.f43) n (rLeft.mk7 a0 a1 s) = rLeft.l7 c57 fuel a0 a1 n s :=
  loop_iter (fun k7 s => (rLeft.b7_ev c57 fuel k7 a0 a1 s).trans (congrFun (congrFun (congrArg (rLeft.b7 c57 a0 a1) (funext fun x7_2 => funext fun x7_3 => funext fun t => rLeft.l11_ev c57 fuel k7 a0 a1 x7_2 x7_3 fuel t)) (fun t => k7 (rLeft.mk7 a0 a1 t))) s)) n s
noncomputable def rLeft.b3 (c57 : T41 × T41 × Int × Unit → Option (Bool × Unit)) (a0 : (List T41)) (a1 : Int) (i7 : (Int × (List Int)) → Option (List Int × Unit)) (k3 : (Int × (List Int)) → Option (List Int × Unit)) (s : (Int × (List Int))) : Option (List Int × Unit) :=
  match s with
  | (x3_2, x3_3) =>
  bif Decidable.decide (x3_2 < (↑(List.length a0) : Int)) then
    bif Decidable.decide ((x3_3.length + (1 : Nat)) * (8 : Nat) ≤ Go.Ev.maxBytes) then
      k3 (Go.IntKind.i64.wrap (x3_2 + (1 : Int)), x3_3 ++ [x3_2])
    else
      none
  else
    i7 ((1 : Int), x3_3)
theorem rLeft.b3_ev (c57 : T41 × T41 × Int × Unit → Option (Bool × Unit)) (fuel : Nat) (k3 : St → Option (List Int × Unit)) (a0 : (List T41)) (a1 : Int) (s : (Int × (List Int))) :
    bodyAt (rLeft.E c57) fuel 3 rLeft.C (endK (rLeft.E c57) [.fresh ty2] Try.f43) k3 (rLeft.mk3 a0 a1 s) =
    rLeft.b3 c57 a0 a1 (fun t => loopAt (rLeft.E c57) fuel 7 rLeft.C (endK (rLeft.E c57) [.fresh ty2] Try.f43) fuel (rLeft.mk7 a0 a1 t)) (fun t => k3 (rLeft.mk3 a0 a1 t)) s := by kernel_rfl
noncomputable def rLeft.l3 (c57 : T41 × T41 × Int × Unit → Option (Bool × Unit)) (fuel : Nat) (a0 : (List T41)) (a1 : Int) (n : Nat) (s : (Int × (List Int))) : Option (List Int × Unit) :=
  iterN (fun k3 s => rLeft.b3 c57 a0 a1 (fun t => rLeft.l7 c57 fuel a0 a1 fuel t) k3 s) n s
theorem rLeft.l3_ev (c57 : T41 × T41 × Int × Unit → Option (Bool × Unit)) (fuel : Nat) (a0 : (List T41)) (a1 : Int) (n : Nat) (s : (Int × (List Int))) :
    loopAt (rLeft.E c57) fuel 3 rLeft.C (endK (rLeft.E c57) [.fresh ty2] Try.f43) n (rLeft.mk3 a0 a1 s) = rLeft.l3 c57 fuel a0 a1 n s :=
  loop_iter (fun k3 s => (rLeft.b3_ev c57 fuel k3 a0 a1 s).trans (congrFun (congrFun (congrArg (rLeft.b3 c57 a0 a1) (funext fun t => rLeft.l7_ev c57 fuel a0 a1 fuel t)) (fun t => k3 (rLeft.mk3 a0 a1 t))) s)) n s
noncomputable def rLeft.b (c57 : T41 × T41 × Int × Unit → Option (Bool × Unit)) (a0 : (List T41)) (a1 : Int) (i3 : (Int × (List Int)) → Option (List Int × Unit)) : Option (List Int × Unit) :=
  i3 ((0 : Int), [])
theorem rLeft.b_ev (c57 : T41 × T41 × Int × Unit → Option (Bool × Unit)) (fuel : Nat) (a0 : (List T41)) (a1 : Int) : evalBody (rLeft.E c57) fuel Try.f43 rLeft.C [ty23, ty2] [.fresh ty2] (a0, a1, ()) =
    rLeft.b c57 a0 a1 (fun t => loopAt (rLeft.E c57) fuel 3 rLeft.C (endK (rLeft.E c57) [.fresh ty2] Try.f43) fuel (rLeft.mk3 a0 a1 t)) := by kernel_rfl
noncomputable def rLeft.f (c57 : T41 × T41 × Int × Unit → Option (Bool × Unit)) (fuel : Nat) (a0 : (List T41)) (a1 : Int) : Option (List Int × Unit) := rLeft.b c57 a0 a1 (fun t => rLeft.l3 c57 fuel a0 a1 fuel t)
theorem rLeft.ev (c57 : T41 × T41 × Int × Unit → Option (Bool × Unit)) (fuel : Nat) (a0 : (List T41)) (a1 : Int) : evalBody (rLeft.E c57) fuel Try.f43 rLeft.C [ty23, ty2] [.fresh ty2] (a0, a1, ()) = rLeft.f c57 fuel a0 a1 :=
  (rLeft.b_ev c57 fuel a0 a1).trans (congrArg (rLeft.b c57 a0 a1) (funext fun t => rLeft.l3_ev c57 fuel a0 a1 fuel t))

/-! ### rShares -/
noncomputable def rShares.E (c42 : Nat × Int × Unit → Option (Bool × Unit)) (c58 : (List Nat) × Unit → Option (Nat × Unit)) : Env := envOf Try.prog (pick [(42, ⟨[ty40, ty2], [.pure ty4], c42⟩), (58, ⟨[ty65], [.pure ty40], c58⟩)]) (pick []) (pick [(9, [(0, none), (1, none), (5, none), (6, none), (7, none), (8, none)]), (15, [(1, none), (5, none), (6, none), (7, none), (9, none)]), (24, [(1, none), (5, none), (6, none), (10, none), (11, none), (12, none), (13, none)]), (32, [(1, none), (5, none), (6, none), (11, none), (14, none)]), (35, [(1, none), (5, none), (6, none), (11, none), (14, none), (15, none)]), (41, [(1, none), (5, none), (6, none), (10, none), (11, none), (16, none), (17, none)]), (50, [(5, none), (6, none), (11, none), (16, none), (20, none)])])
noncomputable def rShares.C : Code := Try.f44.body.getD .skip
noncomputable def rShares.mk9 (a0 : (List Nat)) (a1 : Int) (s : (Int × Bool × Int × (List Int) × (List Nat))) : St := { tmps := slots 190 0 [(0, (.one (.pure ty65 a0))), (1, (.one (.pure ty2 s.1))), (5, (.one (.own 0))), (6, (.one (.own 1))), (7, (.one (.pure ty4 s.2.1))), (8, (.one (.pure ty2 s.2.2.1)))], st := [(0, (.row ty2 s.2.2.2.1)), (1, (.row ty40 s.2.2.2.2))], next := 2 }
noncomputable def rShares.mk15 (a0 : (List Nat)) (a1 : Int) (x9_1 : Int) (x9_2 : Bool) (x9_4 : (List Int)) (s : (Int × (List Nat))) : St := { tmps := slots 190 0 [(1, (.one (.pure ty2 x9_1))), (5, (.one (.own 0))), (6, (.one (.own 1))), (7, (.one (.pure ty4 x9_2))), (9, (.one (.pure ty2 s.1)))], st := [(0, (.row ty2 x9_4)), (1, (.row ty40 s.2))], next := 2 }
noncomputable def rShares.mk24 (a0 : (List Nat)) (a1 : Int) (x9_1 : Int) (x9_4 : (List Int)) (x15_4 : (List Nat)) (s : (Nat × Bool × Int × (List Bool))) : St := { tmps := slots 190 0 [(1, (.one (.pure ty2 x9_1))), (5, (.one (.own 0))), (6, (.one (.own 1))), (10, (.one (.pure ty40 s.1))), (11, (.one (.own 2))), (12, (.one (.pure ty4 s.2.1))), (13, (.one (.pure ty2 s.2.2.1)))], st := [(0, (.row ty2 x9_4)), (1, (.row ty40 x15_4)), (2, (.row ty4 s.2.2.2))], next := 3 }
noncomputable def rShares.mk41 (a0 : (List Nat)) (a1 : Int) (x9_1 : Int) (x15_4 : (List Nat)) (x24_6 : (List Bool)) (s : (Nat × Int × Int × (List Int))) : St := { tmps := slots 190 0 [(1, (.one (.pure ty2 x9_1))), (5, (.one (.own 0))), (6, (.one (.own 1))), (10, (.one (.pure ty40 s.1))), (11, (.one (.own 2))), (16, (.one (.pure ty2 s.2.1))), (17, (.one (.pure ty2 s.2.2.1)))], st := [(0, (.row ty2 s.2.2.2)), (1, (.row ty40 x15_4)), (2, (.row ty4 x24_6))], next := 3 }
noncomputable def rShares.mk50 (a0 : (List Nat)) (a1 : Int) (x15_4 : (List Nat)) (x24_6 : (List Bool)) (s : (Int × Int × (List Int))) : St := { tmps := slots 190 0 [(5, (.one (.own 0))), (6, (.one (.own 1))), (11, (.one (.own 2))), (16, (.one (.pure ty2 s.1))), (20, (.one (.pure ty2 s.2.1)))], st := [(0, (.row ty2 s.2.2)), (1, (.row ty40 x15_4)), (2, (.row ty4 x24_6))], next := 3 }
noncomputable def rShares.mk32 (a0 : (List Nat)) (a1 : Int) (x9_1 : Int) (x9_4 : (List Int)) (x24_6 : (List Bool)) (s : (Int × (List Nat))) : St := { tmps := slots 190 0 [(1, (.one (.pure ty2 x9_1))), (5, (.one (.own 0))), (6, (.one (.own 1))), (11, (.one (.own 2))), (14, (.one (.pure ty2 s.1)))], st := [(0, (.row ty2 x9_4)), (1, (.row ty40 s.2)), (2, (.row ty4 x24_6))], next := 3 }
noncomputable def rShares.mk35 (a0 : (List Nat)) (a1 : Int) (x9_1 : Int) (x9_4 : (List Int)) (x24_6 : (List Bool)) (x32_1 : Int) (s : (Int × (List Nat))) : St := { tmps := slots 190 0 [(1, (.one (.pure ty2 x9_1))), (5, (.one (.own 0))), (6, (.one (.own 1))), (11, (.one (.own 2))), (14, (.one (.pure ty2 x32_1))), (15, (.one (.pure ty2 s.1)))], st := [(0, (.row ty2 x9_4)), (1, (.row ty40 s.2)), (2, (.row ty4 x24_6))], next := 3 }
noncomputable def rShares.C32 (c42 : Nat × Int × Unit → Option (Bool × Unit)) (c58 : (List Nat) × Unit → Option (Nat × Unit)) (fuel : Nat) : Code := codeAt (rShares.E c42 c58) fuel 32 rShares.C
noncomputable def rShares.K32 (c42 : Nat × Int × Unit → Option (Bool × Unit)) (c58 : (List Nat) × Unit → Option (Nat × Unit)) (fuel : Nat) (k32 : St → Option (List Int × Unit)) : Ex → St → Option (List Int × Unit) := contAt (rShares.E c42 c58) fuel 32 rShares.C (endK (rShares.E c42 c58) [.fresh ty2] Try.f44) k32
noncomputable def rShares.b50 (c42 : Nat × Int × Unit → Option (Bool × Unit)) (c58 : (List Nat) × Unit → Option (Nat × Unit)) (a0 : (List Nat)) (a1 : Int) (x15_4 : (List Nat)) (x24_6 : (List Bool)) (k50 : (Int × Int × (List Int)) → Option (List Int × Unit)) (s : (Int × Int × (List Int))) : Option (List Int × Unit) :=
  match s with
  | (x50_0, x50_1, x50_2) =>
  bif Decidable.decide (x50_1 < (↑x15_4.length : Int)) then
    bif Decidable.decide (x50_0 > (0 : Int)) then
      bif Decidable.decide ((0 : Int) ≤ x50_1) && Decidable.decide (x50_1 < (↑x24_6.length : Int)) then
        bif x24_6.getD x50_1.toNat Bool.false then
          bif Decidable.decide ((0 : Int) ≤ x50_1) && Decidable.decide (x50_1 < (↑x50_2.length : Int)) then
            bif Decidable.decide ((0 : Int) ≤ x50_1) && Decidable.decide (x50_1 < (↑x50_2.length : Int)) then
              k50 (Go.IntKind.i64.wrap (x50_0 - (1 : Int)), Go.IntKind.i64.wrap (x50_1 + (1 : Int)), x50_2.set x50_1.toNat (Go.IntKind.i64.wrap (x50_2.getD x50_1.toNat (0 : Int) + (1 : Int))))
            else
              none
          else
            none
        else
          k50 (x50_0, Go.IntKind.i64.wrap (x50_1 + (1 : Int)), x50_2)
      else
        none
    else
      some (x50_2, PUnit.unit)
  else
    some (x50_2, PUnit.unit)
theorem rShares.b50_ev (c42 : Nat × Int × Unit → Option (Bool × Unit)) (c58 : (List Nat) × Unit → Option (Nat × Unit)) (fuel : Nat) (k50 : St → Option (List Int × Unit)) (a0 : (List Nat)) (a1 : Int) (x15_4 : (List Nat)) (x24_6 : (List Bool)) (s : (Int × Int × (List Int))) :
    bodyAt (rShares.E c42 c58) fuel 50 rShares.C (endK (rShares.E c42 c58) [.fresh ty2] Try.f44) k50 (rShares.mk50 a0 a1 x15_4 x24_6 s) =
    rShares.b50 c42 c58 a0 a1 x15_4 x24_6 (fun t => k50 (rShares.mk50 a0 a1 x15_4 x24_6 t)) s := by kernel_rfl
noncomputable def rShares.l50 (c42 : Nat × Int × Unit → Option (Bool × Unit)) (c58 : (List Nat) × Unit → Option (Nat × Unit)) (fuel : Nat) (a0 : (List Nat)) (a1 : Int) (x15_4 : (List Nat)) (x24_6 : (List Bool)) (n : Nat) (s : (Int × Int × (List Int))) : Option (List Int × Unit) :=
  iterN (fun k50 s => rShares.b50 c42 c58 a0 a1 x15_4 x24_6 k50 s) n s
theorem rShares.l50_ev (c42 : Nat × Int × Unit → Option (Bool × Unit)) (c58 : (List Nat) × Unit → Option (Nat × Unit)) (fuel : Nat) (a0 : (List Nat)) (a1 : Int) (x15_4 : (List Nat)) (x24_6 : (List Bool)) (n : Nat) (s : (Int × Int × (List Int))) :
    loopAt (rShares.E c42 c58) fuel 50 rShares.C (endK (rShares.E c42 c58) [.fresh ty2] Try.f44) n (rShares.mk50 a0 a1 x15_4 x24_6 s) = rShares.l50 c42 c58 fuel a0 a1 x15_4 x24_6 n s :=
  loop_iter (fun k50 s => (rShares.b50_ev c42 c58 fuel k50 a0 a1 x15_4 x24_6 s)) n s
noncomputable def rShares.b35 (c42 : Nat × Int × Unit → Option (Bool × Unit)) (c58 : (List Nat) × Unit → Option (Nat × Unit)) (a0 : (List Nat)) (a1 : Int) (x9_1 : Int) (x9_4 : (List Int)) (x24_6 : (List Bool)) (x32_1 : Int) (k32 : (Int × (List Nat)) → Option (List Int × Unit)) (k35 : (Int × (List Nat)) → Option (List Int × Unit)) (s : (Int × (List Nat))) : Option (List Int × Unit) :=
  match s with
  | (x35_2, x35_4) =>
  bif Decidable.decide (x35_2 < (64 : Int)) then
    bif Decidable.decide ((0 : Int) ≤ x32_1) && Decidable.decide (x32_1 < (↑x35_4.length : Int)) then
      bif (Go.FloatKind.f64.format.div (x35_4.getD x32_1.toNat (0 : Nat)) (4611686018427387904 : Nat)).isSome then
        bif Decidable.decide ((0 : Int) ≤ x32_1) && Decidable.decide (x32_1 < (↑x35_4.length : Int)) then
          k35 (Go.IntKind.i64.wrap (x35_2 + (1 : Int)), x35_4.set x32_1.toNat ((Go.FloatKind.f64.format.div (x35_4.getD x32_1.toNat (0 : Nat)) (4611686018427387904 : Nat)).getD (0 : Nat)))
        else
          none
      else
        none
    else
      none
  else
    k32 (Go.IntKind.i64.wrap (x32_1 + (1 : Int)), x35_4)
theorem rShares.b35_ev (c42 : Nat × Int × Unit → Option (Bool × Unit)) (c58 : (List Nat) × Unit → Option (Nat × Unit)) (fuel : Nat) (k32 : St → Option (List Int × Unit)) (k35 : St → Option (List Int × Unit)) (a0 : (List Nat)) (a1 : Int) (x9_1 : Int) (x9_4 : (List Int)) (x24_6 : (List Bool)) (x32_1 : Int) (s : (Int × (List Nat))) :
    bodyAt (rShares.E c42 c58) fuel 35 (rShares.C32 c42 c58 fuel) (rShares.K32 c42 c58 fuel k32) k35 (rShares.mk35 a0 a1 x9_1 x9_4 x24_6 x32_1 s) =
    rShares.b35 c42 c58 a0 a1 x9_1 x9_4 x24_6 x32_1 (fun t => k32 (rShares.mk32 a0 a1 x9_1 x9_4 x24_6 t)) (fun t => k35 (rShares.mk35 a0 a1 x9_1 x9_4 x24_6 x32_1 t)) s := by kernel_rfl
noncomputable def rShares.l35 (c42 : Nat × Int × Unit → Option (Bool × Unit)) (c58 : (List Nat) × Unit → Option (Nat × Unit)) (fuel : Nat) (a0 : (List Nat)) (a1 : Int) (x9_1 : Int) (x9_4 : (List Int)) (x24_6 : (List Bool)) (x32_1 : Int) (k32 : (Int × (List Nat)) → Option (List Int × Unit)) (n : Nat) (s : (Int × (List Nat))) : Option (List Int × Unit) :=
  iterN (fun k35 s => rShares.b35 c42 c58 a0 a1 x9_1 x9_4 x24_6 x32_1 k32 k35 s) n s
theorem rShares.l35_ev (c42 : Nat × Int × Unit → Option (Bool × Unit)) (c58 : (List Nat) × Unit → Option (Nat × Unit)) (fuel : Nat) (k32 : St → Option (List Int × Unit)) (a0 : (List Nat)) (a1 : Int) (x9_1 : Int) (x9_4 : (List Int)) (x24_6 : (List Bool)) (x32_1 : Int) (n : Nat) (s : (Int × (List Nat))) :
    loopAt (rShares.E c42 c58) fuel 35 (rShares.C32 c42 c58 fuel) (rShares.K32 c42 c58 fuel k32) n (rShares.mk35 a0 a1 x9_1 x9_4 x24_6 x32_1 s) = rShares.l35 c42 c58 fuel a0 a1 x9_1 x9_4 x24_6 x32_1 (fun t => k32 (rShares.mk32 a0 a1 x9_1 x9_4 x24_6 t)) n s :=
  loop_iter (fun k35 s => (rShares.b35_ev c42 c58 fuel k32 k35 a0 a1 x9_1 x9_4 x24_6 x32_1 s)) n s
noncomputable def rShares.b41 (c42 : Nat × Int × Unit → Option (Bool × Unit)) (c58 : (List Nat) × Unit → Option (Nat × Unit)) (a0 : (List Nat)) (a1 : Int) (x9_1 : Int) (x15_4 : (List Nat)) (x24_6 : (List Bool)) (i50 : (List Nat) → (List Bool) → (Int × Int × (List Int)) → Option (List Int × Unit)) (k41 : (Nat × Int × Int × (List Int)) → Option (List Int × Unit)) (s : (Nat × Int × Int × (List Int))) : Option (List Int × Unit) :=
  match s with
  | (x41_1, x41_2, x41_3, x41_4) =>
  bif Decidable.decide (x41_3 < (↑x15_4.length : Int)) then
    bif Decidable.decide ((0 : Int) ≤ x41_3) && Decidable.decide (x41_3 < (↑x15_4.length : Int)) then
      bif (Go.FloatKind.f64.format.div (x15_4.getD x41_3.toNat (0 : Nat)) x41_1).isSome then
        bif (Go.FloatKind.f64.format.mul ((Go.FloatKind.f64.format.div (x15_4.getD x41_3.toNat (0 : Nat)) x41_1).getD (0 : Nat)) (Go.FloatKind.f64.nearest x9_1)).isSome then
          bif Go.Ev.convE.match_1 (fun (x : Option Int) => Bool) (Ieee.Datum.toInt Ieee.Toward.zero (Go.FloatKind.f64.decode ((Go.FloatKind.f64.format.mul ((Go.FloatKind.f64.format.div (x15_4.getD x41_3.toNat (0 : Nat)) x41_1).getD (0 : Nat)) (Go.FloatKind.f64.nearest x9_1)).getD (0 : Nat)))) (fun (n : Int) => Decidable.decide (Go.IntKind.i64.min ≤ n) && Decidable.decide (n ≤ Go.IntKind.i64.max)) fun (_ : Unit) => Bool.false then
            bif Decidable.decide ((0 : Int) ≤ x41_3) && Decidable.decide (x41_3 < (↑x41_4.length : Int)) then
              bif Decidable.decide ((0 : Int) ≤ x41_3) && Decidable.decide (x41_3 < (↑(x41_4.set x41_3.toNat ((Ieee.Datum.toInt Ieee.Toward.zero (Go.FloatKind.f64.decode ((Go.FloatKind.f64.format.mul ((Go.FloatKind.f64.format.div (x15_4.getD x41_3.toNat (0 : Nat)) x41_1).getD (0 : Nat)) (Go.FloatKind.f64.nearest x9_1)).getD (0 : Nat)))).getD (0 : Int))).length : Int)) then
                bif Decidable.decide ((x41_4.set x41_3.toNat ((Ieee.Datum.toInt Ieee.Toward.zero (Go.FloatKind.f64.decode ((Go.FloatKind.f64.format.mul ((Go.FloatKind.f64.format.div (x15_4.getD x41_3.toNat (0 : Nat)) x41_1).getD (0 : Nat)) (Go.FloatKind.f64.nearest x9_1)).getD (0 : Nat)))).getD (0 : Int))).getD x41_3.toNat (0 : Int) > x9_1) then
                  bif Decidable.decide ((0 : Int) ≤ x41_3) && Decidable.decide (x41_3 < (↑(x41_4.set x41_3.toNat ((Ieee.Datum.toInt Ieee.Toward.zero (Go.FloatKind.f64.decode ((Go.FloatKind.f64.format.mul ((Go.FloatKind.f64.format.div (x15_4.getD x41_3.toNat (0 : Nat)) x41_1).getD (0 : Nat)) (Go.FloatKind.f64.nearest x9_1)).getD (0 : Nat)))).getD (0 : Int))).length : Int)) then
                    bif Decidable.decide ((0 : Int) ≤ x41_3) && Decidable.decide (x41_3 < (↑((x41_4.set x41_3.toNat ((Ieee.Datum.toInt Ieee.Toward.zero (Go.FloatKind.f64.decode ((Go.FloatKind.f64.format.mul ((Go.FloatKind.f64.format.div (x15_4.getD x41_3.toNat (0 : Nat)) x41_1).getD (0 : Nat)) (Go.FloatKind.f64.nearest x9_1)).getD (0 : Nat)))).getD (0 : Int))).set x41_3.toNat x9_1).length : Int)) then
                      k41 (x41_1, Go.IntKind.i64.wrap (x41_2 - ((x41_4.set x41_3.toNat ((Ieee.Datum.toInt Ieee.Toward.zero (Go.FloatKind.f64.decode ((Go.FloatKind.f64.format.mul ((Go.FloatKind.f64.format.div (x15_4.getD x41_3.toNat (0 : Nat)) x41_1).getD (0 : Nat)) (Go.FloatKind.f64.nearest x9_1)).getD (0 : Nat)))).getD (0 : Int))).set x41_3.toNat x9_1).getD x41_3.toNat (0 : Int)), Go.IntKind.i64.wrap (x41_3 + (1 : Int)), (x41_4.set x41_3.toNat ((Ieee.Datum.toInt Ieee.Toward.zero (Go.FloatKind.f64.decode ((Go.FloatKind.f64.format.mul ((Go.FloatKind.f64.format.div (x15_4.getD x41_3.toNat (0 : Nat)) x41_1).getD (0 : Nat)) (Go.FloatKind.f64.nearest x9_1)).getD (0 : Nat)))).getD (0 : Int))).set x41_3.toNat x9_1)
                    else
                      none
                  else
                    none
                else
                  bif Decidable.decide ((0 : Int) ≤ x41_3) && Decidable.decide (x41_3 < (↑(x41_4.set x41_3.toNat ((Ieee.Datum.toInt Ieee.Toward.zero (Go.FloatKind.f64.decode ((Go.FloatKind.f64.format.mul ((Go.FloatKind.f64.format.div (x15_4.getD x41_3.toNat (0 : Nat)) x41_1).getD (0 : Nat)) (Go.FloatKind.f64.nearest x9_1)).getD (0 : Nat)))).getD (0 : Int))).length : Int)) then
                    k41 (x41_1, Go.IntKind.i64.wrap (x41_2 - (x41_4.set x41_3.toNat ((Ieee.Datum.toInt Ieee.Toward.zero (Go.FloatKind.f64.decode ((Go.FloatKind.f64.format.mul ((Go.FloatKind.f64.format.div (x15_4.getD x41_3.toNat (0 : Nat)) x41_1).getD (0 : Nat)) (Go.FloatKind.f64.nearest x9_1)).getD (0 : Nat)))).getD (0 : Int))).getD x41_3.toNat (0 : Int)), Go.IntKind.i64.wrap (x41_3 + (1 : Int)), x41_4.set x41_3.toNat ((Ieee.Datum.toInt Ieee.Toward.zero (Go.FloatKind.f64.decode ((Go.FloatKind.f64.format.mul ((Go.FloatKind.f64.format.div (x15_4.getD x41_3.toNat (0 : Nat)) x41_1).getD (0 : Nat)) (Go.FloatKind.f64.nearest x9_1)).getD (0 : Nat)))).getD (0 : Int)))
                  else
                    none
              else
                none
            else
              none
          else
            none
        else
          none
      else
        none
    else
      none
  else
    i50 x15_4 x24_6 (x41_2, (0 : Int), x41_4)
theorem rShares.b41_ev (c42 : Nat × Int × Unit → Option (Bool × Unit)) (c58 : (List Nat) × Unit → Option (Nat × Unit)) (fuel : Nat) (k41 : St → Option (List Int × Unit)) (a0 : (List Nat)) (a1 : Int) (x9_1 : Int) (x15_4 : (List Nat)) (x24_6 : (List Bool)) (s : (Nat × Int × Int × (List Int))) :
    bodyAt (rShares.E c42 c58) fuel 41 rShares.C (endK (rShares.E c42 c58) [.fresh ty2] Try.f44) k41 (rShares.mk41 a0 a1 x9_1 x15_4 x24_6 s) =
    rShares.b41 c42 c58 a0 a1 x9_1 x15_4 x24_6 (fun x15_4 x24_6 t => loopAt (rShares.E c42 c58) fuel 50 rShares.C (endK (rShares.E c42 c58) [.fresh ty2] Try.f44) fuel (rShares.mk50 a0 a1 x15_4 x24_6 t)) (fun t => k41 (rShares.mk41 a0 a1 x9_1 x15_4 x24_6 t)) s := by kernel_rfl
noncomputable def rShares.l41 (c42 : Nat × Int × Unit → Option (Bool × Unit)) (c58 : (List Nat) × Unit → Option (Nat × Unit)) (fuel : Nat) (a0 : (List Nat)) (a1 : Int) (x9_1 : Int) (x15_4 : (List Nat)) (x24_6 : (List Bool)) (n : Nat) (s : (Nat × Int × Int × (List Int))) : Option (List Int × Unit) :=
  iterN (fun k41 s => rShares.b41 c42 c58 a0 a1 x9_1 x15_4 x24_6 (fun x15_4 x24_6 t => rShares.l50 c42 c58 fuel a0 a1 x15_4 x24_6 fuel t) k41 s) n s
theorem rShares.l41_ev (c42 : Nat × Int × Unit → Option (Bool × Unit)) (c58 : (List Nat) × Unit → Option (Nat × Unit)) (fuel : Nat) (a0 : (List Nat)) (a1 : Int) (x9_1 : Int) (x15_4 : (List Nat)) (x24_6 : (List Bool)) (n : Nat) (s : (Nat × Int × Int × (List Int))) :
    loopAt (rShares.E c42 c58) fuel 41 rShares.C (endK (rShares.E c42 c58) [.fresh ty2] Try.f44) n (rShares.mk41 a0 a1 x9_1 x15_4 x24_6 s) = rShares.l41 c42 c58 fuel a0 a1 x9_1 x15_4 x24_6 n s :=
  loop_iter (fun k41 s => (rShares.b41_ev c42 c58 fuel k41 a0 a1 x9_1 x15_4 x24_6 s).trans (congrFun (congrFun (congrArg (rShares.b41 c42 c58 a0 a1 x9_1 x15_4 x24_6) (funext fun x15_4 => funext fun x24_6 => funext fun t => rShares.l50_ev c42 c58 fuel a0 a1 x15_4 x24_6 fuel t)) (fun t => k41 (rShares.mk41 a0 a1 x9_1 x15_4 x24_6 t))) s)) n s
noncomputable def rShares.b32 (c42 : Nat × Int × Unit → Option (Bool × Unit)) (c58 : (List Nat) × Unit → Option (Nat × Unit)) (a0 : (List Nat)) (a1 : Int) (x9_1 : Int) (x9_4 : (List Int)) (x24_6 : (List Bool)) (i41 : Int → (List Nat) → (List Bool) → (Nat × Int × Int × (List Int)) → Option (List Int × Unit)) (i35 : Int → (Int × (List Nat)) → Option (List Int × Unit)) (k32 : (Int × (List Nat)) → Option (List Int × Unit)) (s : (Int × (List Nat))) : Option (List Int × Unit) :=
  match s with
  | (x32_1, x32_3) =>
  bif Decidable.decide (x32_1 < (↑x32_3.length : Int)) then
    i35 x32_1 ((0 : Int), x32_3)
  else
    (c58 (x32_3, ())).bind fun r2 =>
    i41 x9_1 x32_3 x24_6 (r2.fst, x9_1, (0 : Int), x9_4)
theorem rShares.b32_ev (c42 : Nat × Int × Unit → Option (Bool × Unit)) (c58 : (List Nat) × Unit → Option (Nat × Unit)) (fuel : Nat) (k32 : St → Option (List Int × Unit)) (a0 : (List Nat)) (a1 : Int) (x9_1 : Int) (x9_4 : (List Int)) (x24_6 : (List Bool)) (s : (Int × (List Nat))) :
    bodyAt (rShares.E c42 c58) fuel 32 rShares.C (endK (rShares.E c42 c58) [.fresh ty2] Try.f44) k32 (rShares.mk32 a0 a1 x9_1 x9_4 x24_6 s) =
    rShares.b32 c42 c58 a0 a1 x9_1 x9_4 x24_6 (fun x9_1 x15_4 x24_6 t => loopAt (rShares.E c42 c58) fuel 41 rShares.C (endK (rShares.E c42 c58) [.fresh ty2] Try.f44) fuel (rShares.mk41 a0 a1 x9_1 x15_4 x24_6 t)) (fun x32_1 t => loopAt (rShares.E c42 c58) fuel 35 (rShares.C32 c42 c58 fuel) (rShares.K32 c42 c58 fuel k32) fuel (rShares.mk35 a0 a1 x9_1 x9_4 x24_6 x32_1 t)) (fun t => k32 (rShares.mk32 a0 a1 x9_1 x9_4 x24_6 t)) s := by kernel_rfl
noncomputable def rShares.l32 (c42 : Nat × Int × Unit → Option (Bool × Unit)) (c58 : (List Nat) × Unit → Option (Nat × Unit)) (fuel : Nat) (a0 : (List Nat)) (a1 : Int) (x9_1 : Int) (x9_4 : (List Int)) (x24_6 : (List Bool)) (n : Nat) (s : (Int × (List Nat))) : Option (List Int × Unit) :=
  iterN (fun k32 s => rShares.b32 c42 c58 a0 a1 x9_1 x9_4 x24_6 (fun x9_1 x15_4 x24_6 t => rShares.l41 c42 c58 fuel a0 a1 x9_1 x15_4 x24_6 fuel t) (fun x32_1 t => rShares.l35 c42 c58 fuel a0 a1 x9_1 x9_4 x24_6 x32_1 k32 fuel t) k32 s) n s
theorem rShares.l32_ev (c42 : Nat × Int × Unit → Option (Bool × Unit)) (c58 : (List Nat) × Unit → Option (Nat × Unit)) (fuel : Nat) (a0 : (List Nat)) (a1 : Int) (x9_1 : Int) (x9_4 : (List Int)) (x24_6 : (List Bool)) (n : Nat) (s : (Int × (List Nat))) :
    loopAt (rShares.E c42 c58) fuel 32 rShares.C (endK (rShares.E c42 c58) [.fresh ty2] Try.f44) n (rShares.mk32 a0 a1 x9_1 x9_4 x24_6 s) = rShares.l32 c42 c58 fuel a0 a1 x9_1 x9_4 x24_6 n s :=
  loop_iter (fun k32 s => (rShares.b32_ev c42 c58 fuel k32 a0 a1 x9_1 x9_4 x24_6 s).trans (congrFun (congrFun (congr (congrArg (rShares.b32 c42 c58 a0 a1 x9_1 x9_4 x24_6) (funext fun x9_1 => funext fun x15_4 => funext fun x24_6 => funext fun t => rShares.l41_ev c42 c58 fuel a0 a1 x9_1 x15_4 x24_6 fuel t)) (funext fun x32_1 => funext fun t => rShares.l35_ev c42 c58 fuel k32 a0 a1 x9_1 x9_4 x24_6 x32_1 fuel t)) (fun t => k32 (rShares.mk32 a0 a1 x9_1 x9_4 x24_6 t))) s)) n s
noncomputable def rShares.b24 (c42 : Nat × Int × Unit → Option (Bool × Unit)) (c58 : (List Nat) × Unit → Option (Nat × Unit)) (a0 : (List Nat)) (a1 : Int) (x9_1 : Int) (x9_4 : (List Int)) (x15_4 : (List Nat)) (i41 : Int → (List Nat) → (List Bool) → (Nat × Int × Int × (List Int)) → Option (List Int × Unit)) (i32 : Int → (List Int) → (List Bool) → (Int × (List Nat)) → Option (List Int × Unit)) (k24 : (Nat × Bool × Int × (List Bool)) → Option (List Int × Unit)) (s : (Nat × Bool × Int × (List Bool))) : Option (List Int × Unit) :=
  match s with
  | (x24_1, x24_2, x24_3, x24_6) =>
  bif Decidable.decide (x24_3 < (↑x15_4.length : Int)) then
    bif Decidable.decide ((0 : Int) ≤ x24_3) && Decidable.decide (x24_3 < (↑x15_4.length : Int)) then
      bif Decidable.decide ((0 : Int) ≤ x24_3) && Decidable.decide (x24_3 < (↑x24_6.length : Int)) then
        bif x24_2 then
          k24 (x24_1, Bool.true, Go.IntKind.i64.wrap (x24_3 + (1 : Int)), x24_6.set x24_3.toNat (Go.FloatKind.f64.format.order (x15_4.getD x24_3.toNat (0 : Nat)) (0 : Nat) == Option.some Ordering.gt))
        else
          bif Decidable.decide ((0 : Int) ≤ x24_3) && Decidable.decide (x24_3 < (↑(x24_6.set x24_3.toNat (Go.FloatKind.f64.format.order (x15_4.getD x24_3.toNat (0 : Nat)) (0 : Nat) == Option.some Ordering.gt)).length : Int)) then
            k24 (x24_1, (x24_6.set x24_3.toNat (Go.FloatKind.f64.format.order (x15_4.getD x24_3.toNat (0 : Nat)) (0 : Nat) == Option.some Ordering.gt)).getD x24_3.toNat Bool.false, Go.IntKind.i64.wrap (x24_3 + (1 : Int)), x24_6.set x24_3.toNat (Go.FloatKind.f64.format.order (x15_4.getD x24_3.toNat (0 : Nat)) (0 : Nat) == Option.some Ordering.gt))
          else
            none
      else
        none
    else
      none
  else
    bif !x24_2 then
      some (x9_4, PUnit.unit)
    else
      (c42 (x24_1, (1 : Int), ())).bind fun r1 =>
      bif r1.fst then
        i32 x9_1 x9_4 x24_6 ((0 : Int), x15_4)
      else
        i41 x9_1 x15_4 x24_6 (x24_1, x9_1, (0 : Int), x9_4)
theorem rShares.b24_ev (c42 : Nat × Int × Unit → Option (Bool × Unit)) (c58 : (List Nat) × Unit → Option (Nat × Unit)) (fuel : Nat) (k24 : St → Option (List Int × Unit)) (a0 : (List Nat)) (a1 : Int) (x9_1 : Int) (x9_4 : (List Int)) (x15_4 : (List Nat)) (s : (Nat × Bool × Int × (List Bool))) :
    bodyAt (rShares.E c42 c58) fuel 24 rShares.C (endK (rShares.E c42 c58) [.fresh ty2] Try.f44) k24 (rShares.mk24 a0 a1 x9_1 x9_4 x15_4 s) =
    rShares.b24 c42 c58 a0 a1 x9_1 x9_4 x15_4 (fun x9_1 x15_4 x24_6 t => loopAt (rShares.E c42 c58) fuel 41 rShares.C (endK (rShares.E c42 c58) [.fresh ty2] Try.f44) fuel (rShares.mk41 a0 a1 x9_1 x15_4 x24_6 t)) (fun x9_1 x9_4 x24_6 t => loopAt (rShares.E c42 c58) fuel 32 rShares.C (endK (rShares.E c42 c58) [.fresh ty2] Try.f44) fuel (rShares.mk32 a0 a1 x9_1 x9_4 x24_6 t)) (fun t => k24 (rShares.mk24 a0 a1 x9_1 x9_4 x15_4 t)) s := by kernel_rfl
noncomputable def rShares.l24 (c42 : Nat × Int × Unit → Option (Bool × Unit)) (c58 : (List Nat) × Unit → Option (Nat × Unit)) (fuel : Nat) (a0 : (List Nat)) (a1 : Int) (x9_1 : Int) (x9_4 : (List Int)) (x15_4 : (List Nat)) (n : Nat) (s : (Nat × Bool × Int × (List Bool))) : Option (List Int × Unit) :=
  iterN (fun k24 s => rShares.b24 c42 c58 a0 a1 x9_1 x9_4 x15_4 (fun x9_1 x15_4 x24_6 t => rShares.l41 c42 c58 fuel a0 a1 x9_1 x15_4 x24_6 fuel t) (fun x9_1 x9_4 x24_6 t => rShares.l32 c42 c58 fuel a0 a1 x9_1 x9_4 x24_6 fuel t) k24 s) n s
theorem rShares.l24_ev (c42 : Nat × Int × Unit → Option (Bool × Unit)) (c58 : (List Nat) × Unit → Option (Nat × Unit)) (fuel : Nat) (a0 : (List Nat)) (a1 : Int) (x9_1 : Int) (x9_4 : (List Int)) (x15_4 : (List Nat)) (n : Nat) (s : (Nat × Bool × Int × (List Bool))) :
    loopAt (rShares.E c42 c58) fuel 24 rShares.C (endK (rShares.E c42 c58) [.fresh ty2] Try.f44) n (rShares.mk24 a0 a1 x9_1 x9_4 x15_4 s) = rShares.l24 c42 c58 fuel a0 a1 x9_1 x9_4 x15_4 n s :=
  loop_iter (fun k24 s => (rShares.b24_ev c42 c58 fuel k24 a0 a1 x9_1 x9_4 x15_4 s).trans (congrFun (congrFun (congr (congrArg (rShares.b24 c42 c58 a0 a1 x9_1 x9_4 x15_4) (funext fun x9_1 => funext fun x15_4 => funext fun x24_6 => funext fun t => rShares.l41_ev c42 c58 fuel a0 a1 x9_1 x15_4 x24_6 fuel t)) (funext fun x9_1 => funext fun x9_4 => funext fun x24_6 => funext fun t => rShares.l32_ev c42 c58 fuel a0 a1 x9_1 x9_4 x24_6 fuel t)) (fun t => k24 (rShares.mk24 a0 a1 x9_1 x9_4 x15_4 t))) s)) n s
noncomputable def rShares.b15 (c42 : Nat × Int × Unit → Option (Bool × Unit)) (c58 : (List Nat) × Unit → Option (Nat × Unit)) (a0 : (List Nat)) (a1 : Int) (x9_1 : Int) (x9_2 : Bool) (x9_4 : (List Int)) (i24 : Int → (List Int) → (List Nat) → (Nat × Bool × Int × (List Bool)) → Option (List Int × Unit)) (k15 : (Int × (List Nat)) → Option (List Int × Unit)) (s : (Int × (List Nat))) : Option (List Int × Unit) :=
  match s with
  | (x15_2, x15_4) =>
  bif Decidable.decide (x15_2 < (↑x15_4.length : Int)) then
    bif x9_2 then
      bif Decidable.decide ((0 : Int) ≤ x15_2) && Decidable.decide (x15_2 < (↑x15_4.length : Int)) then
        (c42 (x15_4.getD x15_2.toNat (0 : Nat), (1 : Int), ())).bind fun r4 =>
        bif r4.fst then
          bif Decidable.decide ((0 : Int) ≤ x15_2) && Decidable.decide (x15_2 < (↑x15_4.length : Int)) then
            k15 (Go.IntKind.i64.wrap (x15_2 + (1 : Int)), x15_4.set x15_2.toNat (4607182418800017408 : Nat))
          else
            none
        else
          bif Decidable.decide ((0 : Int) ≤ x15_2) && Decidable.decide (x15_2 < (↑x15_4.length : Int)) then
            k15 (Go.IntKind.i64.wrap (x15_2 + (1 : Int)), x15_4.set x15_2.toNat (0 : Nat))
          else
            none
      else
        none
    else
      (c58 (x15_4, ())).bind fun r3 =>
      bif Decidable.decide ((0 : Int) ≤ (↑x15_4.length : Int)) && Decidable.decide ((↑x15_4.length : Int) ≤ (↑x15_4.length : Int)) && Decidable.decide ((↑x15_4.length : Int) * (↑(1 : Nat) : Int) ≤ (↑Go.Ev.maxBytes : Int)) && Decidable.decide ((↑x15_4.length : Int) ≤ (9223372036854775807 : Int)) then
        i24 x9_1 x9_4 x15_4 (r3.fst, Bool.false, (0 : Int), List.replicate (↑x15_4.length : Int).toNat Bool.false)
      else
        none
  else
    (c58 (x15_4, ())).bind fun r0 =>
    bif Decidable.decide ((0 : Int) ≤ (↑x15_4.length : Int)) && Decidable.decide ((↑x15_4.length : Int) ≤ (↑x15_4.length : Int)) && Decidable.decide ((↑x15_4.length : Int) * (↑(1 : Nat) : Int) ≤ (↑Go.Ev.maxBytes : Int)) && Decidable.decide ((↑x15_4.length : Int) ≤ (9223372036854775807 : Int)) then
      i24 x9_1 x9_4 x15_4 (r0.fst, Bool.false, (0 : Int), List.replicate (↑x15_4.length : Int).toNat Bool.false)
    else
      none
theorem rShares.b15_ev (c42 : Nat × Int × Unit → Option (Bool × Unit)) (c58 : (List Nat) × Unit → Option (Nat × Unit)) (fuel : Nat) (k15 : St → Option (List Int × Unit)) (a0 : (List Nat)) (a1 : Int) (x9_1 : Int) (x9_2 : Bool) (x9_4 : (List Int)) (s : (Int × (List Nat))) :
    bodyAt (rShares.E c42 c58) fuel 15 rShares.C (endK (rShares.E c42 c58) [.fresh ty2] Try.f44) k15 (rShares.mk15 a0 a1 x9_1 x9_2 x9_4 s) =
    rShares.b15 c42 c58 a0 a1 x9_1 x9_2 x9_4 (fun x9_1 x9_4 x15_4 t => loopAt (rShares.E c42 c58) fuel 24 rShares.C (endK (rShares.E c42 c58) [.fresh ty2] Try.f44) fuel (rShares.mk24 a0 a1 x9_1 x9_4 x15_4 t)) (fun t => k15 (rShares.mk15 a0 a1 x9_1 x9_2 x9_4 t)) s := by kernel_rfl
noncomputable def rShares.l15 (c42 : Nat × Int × Unit → Option (Bool × Unit)) (c58 : (List Nat) × Unit → Option (Nat × Unit)) (fuel : Nat) (a0 : (List Nat)) (a1 : Int) (x9_1 : Int) (x9_2 : Bool) (x9_4 : (List Int)) (n : Nat) (s : (Int × (List Nat))) : Option (List Int × Unit) :=
  iterN (fun k15 s => rShares.b15 c42 c58 a0 a1 x9_1 x9_2 x9_4 (fun x9_1 x9_4 x15_4 t => rShares.l24 c42 c58 fuel a0 a1 x9_1 x9_4 x15_4 fuel t) k15 s) n s
theorem rShares.l15_ev (c42 : Nat × Int × Unit → Option (Bool × Unit)) (c58 : (List Nat) × Unit → Option (Nat × Unit)) (fuel : Nat) (a0 : (List Nat)) (a1 : Int) (x9_1 : Int) (x9_2 : Bool) (x9_4 : (List Int)) (n : Nat) (s : (Int × (List Nat))) :
    loopAt (rShares.E c42 c58) fuel 15 rShares.C (endK (rShares.E c42 c58) [.fresh ty2] Try.f44) n (rShares.mk15 a0 a1 x9_1 x9_2 x9_4 s) = rShares.l15 c42 c58 fuel a0 a1 x9_1 x9_2 x9_4 n s :=
  loop_iter (fun k15 s => (rShares.b15_ev c42 c58 fuel k15 a0 a1 x9_1 x9_2 x9_4 s).trans (congrFun (congrFun (congrArg (rShares.b15 c42 c58 a0 a1 x9_1 x9_2 x9_4) (funext fun x9_1 => funext fun x9_4 => funext fun x15_4 => funext fun t => rShares.l24_ev c42 c58 fuel a0 a1 x9_1 x9_4 x15_4 fuel t)) (fun t => k15 (rShares.mk15 a0 a1 x9_1 x9_2 x9_4 t))) s)) n s
noncomputable def rShares.b9 (c42 : Nat × Int × Unit → Option (Bool × Unit)) (c58 : (List Nat) × Unit → Option (Nat × Unit)) (a0 : (List Nat)) (a1 : Int) (i15 : Int → Bool → (List Int) → (Int × (List Nat)) → Option (List Int × Unit)) (k9 : (Int × Bool × Int × (List Int) × (List Nat)) → Option (List Int × Unit)) (s : (Int × Bool × Int × (List Int) × (List Nat))) : Option (List Int × Unit) :=
  match s with
  | (x9_1, x9_2, x9_3, x9_4, x9_5) =>
  bif Decidable.decide (x9_3 < (↑(List.length a0) : Int)) then
    bif Decidable.decide ((0 : Int) ≤ x9_3) && Decidable.decide (x9_3 < (↑(List.length a0) : Int)) then
      bif Go.FloatKind.f64.format.order (List.getD a0 x9_3.toNat (0 : Nat)) (0 : Nat) == Option.some Ordering.gt then
        bif Decidable.decide ((0 : Int) ≤ x9_3) && Decidable.decide (x9_3 < (↑(List.length a0) : Int)) then
          bif Decidable.decide ((0 : Int) ≤ x9_3) && Decidable.decide (x9_3 < (↑x9_5.length : Int)) then
            bif x9_2 then
              k9 (x9_1, Bool.true, Go.IntKind.i64.wrap (x9_3 + (1 : Int)), x9_4, x9_5.set x9_3.toNat (List.getD a0 x9_3.toNat (0 : Nat)))
            else
              bif Decidable.decide ((0 : Int) ≤ x9_3) && Decidable.decide (x9_3 < (↑(List.length a0) : Int)) then
                (c42 (List.getD a0 x9_3.toNat (0 : Nat), (1 : Int), ())).bind fun r6 =>
                k9 (x9_1, r6.fst, Go.IntKind.i64.wrap (x9_3 + (1 : Int)), x9_4, x9_5.set x9_3.toNat (List.getD a0 x9_3.toNat (0 : Nat)))
              else
                none
          else
            none
        else
          none
      else
        bif x9_2 then
          k9 (x9_1, Bool.true, Go.IntKind.i64.wrap (x9_3 + (1 : Int)), x9_4, x9_5)
        else
          bif Decidable.decide ((0 : Int) ≤ x9_3) && Decidable.decide (x9_3 < (↑(List.length a0) : Int)) then
            (c42 (List.getD a0 x9_3.toNat (0 : Nat), (1 : Int), ())).bind fun r5 =>
            k9 (x9_1, r5.fst, Go.IntKind.i64.wrap (x9_3 + (1 : Int)), x9_4, x9_5)
          else
            none
    else
      none
  else
    i15 x9_1 x9_2 x9_4 ((0 : Int), x9_5)
theorem rShares.b9_ev (c42 : Nat × Int × Unit → Option (Bool × Unit)) (c58 : (List Nat) × Unit → Option (Nat × Unit)) (fuel : Nat) (k9 : St → Option (List Int × Unit)) (a0 : (List Nat)) (a1 : Int) (s : (Int × Bool × Int × (List Int) × (List Nat))) :
    bodyAt (rShares.E c42 c58) fuel 9 rShares.C (endK (rShares.E c42 c58) [.fresh ty2] Try.f44) k9 (rShares.mk9 a0 a1 s) =
    rShares.b9 c42 c58 a0 a1 (fun x9_1 x9_2 x9_4 t => loopAt (rShares.E c42 c58) fuel 15 rShares.C (endK (rShares.E c42 c58) [.fresh ty2] Try.f44) fuel (rShares.mk15 a0 a1 x9_1 x9_2 x9_4 t)) (fun t => k9 (rShares.mk9 a0 a1 t)) s := by kernel_rfl
noncomputable def rShares.l9 (c42 : Nat × Int × Unit → Option (Bool × Unit)) (c58 : (List Nat) × Unit → Option (Nat × Unit)) (fuel : Nat) (a0 : (List Nat)) (a1 : Int) (n : Nat) (s : (Int × Bool × Int × (List Int) × (List Nat))) : Option (List Int × Unit) :=
  iterN (fun k9 s => rShares.b9 c42 c58 a0 a1 (fun x9_1 x9_2 x9_4 t => rShares.l15 c42 c58 fuel a0 a1 x9_1 x9_2 x9_4 fuel t) k9 s) n s
theorem rShares.l9_ev (c42 : Nat × Int × Unit → Option (Bool × Unit)) (c58 : (List Nat) × Unit → Option (Nat × Unit)) (fuel : Nat) (a0 : (List Nat)) (a1 : Int) (n : Nat) (s : (Int × Bool × Int × (List Int) × (List Nat))) :
    loopAt (rShares.E c42 c58) fuel 9 rShares.C (endK (rShares.E c42 c58) [.fresh ty2] Try.f44) n (rShares.mk9 a0 a1 s) = rShares.l9 c42 c58 fuel a0 a1 n s :=
  loop_iter (fun k9 s => (rShares.b9_ev c42 c58 fuel k9 a0 a1 s).trans (congrFun (congrFun (congrArg (rShares.b9 c42 c58 a0 a1) (funext fun x9_1 => funext fun x9_2 => funext fun x9_4 => funext fun t => rShares.l15_ev c42 c58 fuel a0 a1 x9_1 x9_2 x9_4 fuel t)) (fun t => k9 (rShares.mk9 a0 a1 t))) s)) n s
noncomputable def rShares.b (c42 : Nat × Int × Unit → Option (Bool × Unit)) (c58 : (List Nat) × Unit → Option (Nat × Unit)) (a0 : (List Nat)) (a1 : Int) (i9 : (Int × Bool × Int × (List Int) × (List Nat)) → Option (List Int × Unit)) : Option (List Int × Unit) :=
  bif Decidable.decide ((0 : Int) ≤ (↑(List.length a0) : Int)) && Decidable.decide ((↑(List.length a0) : Int) ≤ (↑(List.length a0) : Int)) && Decidable.decide ((↑(List.length a0) : Int) * (↑(8 : Nat) : Int) ≤ (↑Go.Ev.maxBytes : Int)) && Decidable.decide ((↑(List.length a0) : Int) ≤ (9223372036854775807 : Int)) then
    bif Decidable.decide (a1 < (1 : Int)) then
      some (List.replicate (↑(List.length a0) : Int).toNat (0 : Int), PUnit.unit)
    else
      bif Decidable.decide (a1 > (1000 : Int)) then
        bif Decidable.decide ((0 : Int) ≤ (↑(List.length a0) : Int)) && Decidable.decide ((↑(List.length a0) : Int) ≤ (↑(List.length a0) : Int)) && Decidable.decide ((↑(List.length a0) : Int) * (↑(8 : Nat) : Int) ≤ (↑Go.Ev.maxBytes : Int)) && Decidable.decide ((↑(List.length a0) : Int) ≤ (9223372036854775807 : Int)) then
          i9 ((1000 : Int), Bool.false, (0 : Int), List.replicate (↑(List.length a0) : Int).toNat (0 : Int), List.replicate (↑(List.length a0) : Int).toNat (0 : Nat))
        else
          none
      else
        bif Decidable.decide ((0 : Int) ≤ (↑(List.length a0) : Int)) && Decidable.decide ((↑(List.length a0) : Int) ≤ (↑(List.length a0) : Int)) && Decidable.decide ((↑(List.length a0) : Int) * (↑(8 : Nat) : Int) ≤ (↑Go.Ev.maxBytes : Int)) && Decidable.decide ((↑(List.length a0) : Int) ≤ (9223372036854775807 : Int)) then
          i9 (a1, Bool.false, (0 : Int), List.replicate (↑(List.length a0) : Int).toNat (0 : Int), List.replicate (↑(List.length a0) : Int).toNat (0 : Nat))
        else
          none
  else
    none
theorem rShares.b_ev (c42 : Nat × Int × Unit → Option (Bool × Unit)) (c58 : (List Nat) × Unit → Option (Nat × Unit)) (fuel : Nat) (a0 : (List Nat)) (a1 : Int) : evalBody (rShares.E c42 c58) fuel Try.f44 rShares.C [ty65, ty2] [.fresh ty2] (a0, a1, ()) =
    rShares.b c42 c58 a0 a1 (fun t => loopAt (rShares.E c42 c58) fuel 9 rShares.C (endK (rShares.E c42 c58) [.fresh ty2] Try.f44) fuel (rShares.mk9 a0 a1 t)) := by kernel_rfl
noncomputable def rShares.f (c42 : Nat × Int × Unit → Option (Bool × Unit)) (c58 : (List Nat) × Unit → Option (Nat × Unit)) (fuel : Nat) (a0 : (List Nat)) (a1 : Int) : Option (List Int × Unit) := rShares.b c42 c58 a0 a1 (fun t => rShares.l9 c42 c58 fuel a0 a1 fuel t)
theorem rShares.ev (c42 : Nat × Int × Unit → Option (Bool × Unit)) (c58 : (List Nat) × Unit → Option (Nat × Unit)) (fuel : Nat) (a0 : (List Nat)) (a1 : Int) : evalBody (rShares.E c42 c58) fuel Try.f44 rShares.C [ty65, ty2] [.fresh ty2] (a0, a1, ()) = rShares.f c42 c58 fuel a0 a1 :=
  (rShares.b_ev c42 c58 fuel a0 a1).trans (congrArg (rShares.b c42 c58 a0 a1) (funext fun t => rShares.l9_ev c42 c58 fuel a0 a1 fuel t))

/-! ### insSort -/
noncomputable def insSort.E (c23 : Int × Int × (List T41) × Unit → Option ((Int × Unit) × (Int × Int × (List T41) × Unit))) : Env := envOf Try.prog (pick []) (pick [(23, extBy ⟨[.pure ty2, .pure ty2, .con ty23], [.pure ty2], c23⟩)]) (pick [(1, [(0, none), (1, none), (2, none), (3, none), (8, none)]), (4, [(0, none), (1, none), (2, none), (3, none), (8, none), (9, none)])])
noncomputable def insSort.C : Code := Try.f45.body.getD .skip
noncomputable def insSort.mk1 (a0 : (List Int)) (a1 : Int) (a2 : Int) (a3 : ((List T41) × Unit)) (s : (Int × (List T41))) : St := { tmps := slots 53 0 [(0, (.one (.own 1))), (1, (.one (.pure ty2 a1))), (2, (.one (.pure ty2 a2))), (3, (.one (.fn 23 [2]))), (8, (.one (.pure ty2 s.1)))], st := [(0, (.ghost [(.one (.own 1)), (.one (.pure ty2 a1)), (.one (.pure ty2 a2)), (.one (.fn 23 [2]))])), (1, (.row ty2 a0)), (2, (.cells [(.pure ty23 s.2)]))], next := 3 }
noncomputable def insSort.mk4 (a0 : (List Int)) (a1 : Int) (a2 : Int) (a3 : ((List T41) × Unit)) (x1_2 : Int) (x1_6 : (List T41)) (s : Unit) : St := { tmps := slots 53 0 [(0, (.one (.own 1))), (1, (.one (.pure ty2 a1))), (2, (.one (.pure ty2 a2))), (3, (.one (.fn 23 [2]))), (8, (.one (.pure ty2 x1_2))), (9, (.one (.pure ty2 x1_2)))], st := [(0, (.ghost [(.one (.own 1)), (.one (.pure ty2 a1)), (.one (.pure ty2 a2)), (.one (.fn 23 [2]))])), (1, (.row ty2 a0)), (2, (.cells [(.pure ty23 x1_6)]))], next := 3 }
noncomputable def insSort.C1 (c23 : Int × Int × (List T41) × Unit → Option ((Int × Unit) × (Int × Int × (List T41) × Unit))) (fuel : Nat) : Code := codeAt (insSort.E c23) fuel 1 insSort.C
noncomputable def insSort.K1 (c23 : Int × Int × (List T41) × Unit → Option ((Int × Unit) × (Int × Int × (List T41) × Unit))) (fuel : Nat) (k1 : St → Option ((Unit) × ((List Int) × Int × Int × ((List T41) × Unit) × Unit))) : Ex → St → Option ((Unit) × ((List Int) × Int × Int × ((List T41) × Unit) × Unit)) := contAt (insSort.E c23) fuel 1 insSort.C (endBy (insSort.E c23) [.row ty2, .pure ty2, .pure ty2, .fn 23 [ty23]] [] Try.f45) k1
noncomputable def insSort.b4 (c23 : Int × Int × (List T41) × Unit → Option ((Int × Unit) × (Int × Int × (List T41) × Unit))) (a0 : (List Int)) (a1 : Int) (a2 : Int) (a3 : ((List T41) × Unit)) (x1_2 : Int) (x1_6 : (List T41)) (k1 : (Int × (List T41)) → Option ((Unit) × ((List Int) × Int × Int × ((List T41) × Unit) × Unit))) (k4 : Unit → Option ((Unit) × ((List Int) × Int × Int × ((List T41) × Unit) × Unit))) (s : Unit) : Option ((Unit) × ((List Int) × Int × Int × ((List T41) × Unit) × Unit)) :=
  match s with
  | () =>
  bif Decidable.decide (x1_2 > a1) then
    bif Decidable.decide ((0 : Int) ≤ x1_2) && Decidable.decide (x1_2 < (↑(List.length a0) : Int)) then
      bif Decidable.decide ((0 : Int) ≤ Go.IntKind.i64.wrap (x1_2 - (1 : Int))) && Decidable.decide (Go.IntKind.i64.wrap (x1_2 - (1 : Int)) < (↑(List.length a0) : Int)) then
        none
      else
        none
    else
      none
  else
    k1 (Go.IntKind.i64.wrap (x1_2 + (1 : Int)), x1_6)
theorem insSort.b4_ev (c23 : Int × Int × (List T41) × Unit → Option ((Int × Unit) × (Int × Int × (List T41) × Unit))) (fuel : Nat) (k1 : St → Option ((Unit) × ((List Int) × Int × Int × ((List T41) × Unit) × Unit))) (k4 : St → Option ((Unit) × ((List Int) × Int × Int × ((List T41) × Unit) × Unit))) (a0 : (List Int)) (a1 : Int) (a2 : Int) (a3 : ((List T41) × Unit)) (x1_2 : Int) (x1_6 : (List T41)) (s : Unit) :
    bodyAt (insSort.E c23) fuel 4 (insSort.C1 c23 fuel) (insSort.K1 c23 fuel k1) k4 (insSort.mk4 a0 a1 a2 a3 x1_2 x1_6 s) =
    insSort.b4 c23 a0 a1 a2 a3 x1_2 x1_6 (fun t => k1 (insSort.mk1 a0 a1 a2 a3 t)) (fun t => k4 (insSort.mk4 a0 a1 a2 a3 x1_2 x1_6 t)) s := by kernel_rfl
noncomputable def insSort.l4 (c23 : Int × Int × (List T41) × Unit → Option ((Int × Unit) × (Int × Int × (List T41) × Unit))) (fuel : Nat) (a0 : (List Int)) (a1 : Int) (a2 : Int) (a3 : ((List T41) × Unit)) (x1_2 : Int) (x1_6 : (List T41)) (k1 : (Int × (List T41)) → Option ((Unit) × ((List Int) × Int × Int × ((List T41) × Unit) × Unit))) (n : Nat) (s : Unit) : Option ((Unit) × ((List Int) × Int × Int × ((List T41) × Unit) × Unit)) :=
  iterN (fun k4 s => insSort.b4 c23 a0 a1 a2 a3 x1_2 x1_6 k1 k4 s) n s
theorem insSort.l4_ev (c23 : Int × Int × (List T41) × Unit → Option ((Int × Unit) × (Int × Int × (List T41) × Unit))) (fuel : Nat) (k1 : St → Option ((Unit) × ((List Int) × Int × Int × ((List T41) × Unit) × Unit))) (a0 : (List Int)) (a1 : Int) (a2 : Int) (a3 : ((List T41) × Unit)) (x1_2 : Int) (x1_6 : (List T41)) (n : Nat) (s : Unit) :
    loopAt (insSort.E c23) fuel 4 (insSort.C1 c23 fuel) (insSort.K1 c23 fuel k1) n (insSort.mk4 a0 a1 a2 a3 x1_2 x1_6 s) = insSort.l4 c23 fuel a0 a1 a2 a3 x1_2 x1_6 (fun t => k1 (insSort.mk1 a0 a1 a2 a3 t)) n s :=
  loop_iter (fun k4 s => (insSort.b4_ev c23 fuel k1 k4 a0 a1 a2 a3 x1_2 x1_6 s)) n s
noncomputable def insSort.b1 (c23 : Int × Int × (List T41) × Unit → Option ((Int × Unit) × (Int × Int × (List T41) × Unit))) (a0 : (List Int)) (a1 : Int) (a2 : Int) (a3 : ((List T41) × Unit)) (i4 : Int → (List T41) → Unit → Option ((Unit) × ((List Int) × Int × Int × ((List T41) × Unit) × Unit))) (k1 : (Int × (List T41)) → Option ((Unit) × ((List Int) × Int × Int × ((List T41) × Unit) × Unit))) (s : (Int × (List T41))) : Option ((Unit) × ((List Int) × Int × Int × ((List T41) × Unit) × Unit)) :=
  match s with
  | (x1_2, x1_6) =>
  bif Decidable.decide (x1_2 < a2) then
    i4 x1_2 x1_6 ()
  else
    some ((), (a0, (a1, (a2, ((x1_6, ()), PUnit.unit)))))
theorem insSort.b1_ev (c23 : Int × Int × (List T41) × Unit → Option ((Int × Unit) × (Int × Int × (List T41) × Unit))) (fuel : Nat) (k1 : St → Option ((Unit) × ((List Int) × Int × Int × ((List T41) × Unit) × Unit))) (a0 : (List Int)) (a1 : Int) (a2 : Int) (a3 : ((List T41) × Unit)) (s : (Int × (List T41))) :
    bodyAt (insSort.E c23) fuel 1 insSort.C (endBy (insSort.E c23) [.row ty2, .pure ty2, .pure ty2, .fn 23 [ty23]] [] Try.f45) k1 (insSort.mk1 a0 a1 a2 a3 s) =
    insSort.b1 c23 a0 a1 a2 a3 (fun x1_2 x1_6 t => loopAt (insSort.E c23) fuel 4 (insSort.C1 c23 fuel) (insSort.K1 c23 fuel k1) fuel (insSort.mk4 a0 a1 a2 a3 x1_2 x1_6 t)) (fun t => k1 (insSort.mk1 a0 a1 a2 a3 t)) s := by kernel_rfl
noncomputable def insSort.l1 (c23 : Int × Int × (List T41) × Unit → Option ((Int × Unit) × (Int × Int × (List T41) × Unit))) (fuel : Nat) (a0 : (List Int)) (a1 : Int) (a2 : Int) (a3 : ((List T41) × Unit)) (n : Nat) (s : (Int × (List T41))) : Option ((Unit) × ((List Int) × Int × Int × ((List T41) × Unit) × Unit)) :=
  iterN (fun k1 s => insSort.b1 c23 a0 a1 a2 a3 (fun x1_2 x1_6 t => insSort.l4 c23 fuel a0 a1 a2 a3 x1_2 x1_6 k1 fuel t) k1 s) n s
theorem insSort.l1_ev (c23 : Int × Int × (List T41) × Unit → Option ((Int × Unit) × (Int × Int × (List T41) × Unit))) (fuel : Nat) (a0 : (List Int)) (a1 : Int) (a2 : Int) (a3 : ((List T41) × Unit)) (n : Nat) (s : (Int × (List T41))) :
    loopAt (insSort.E c23) fuel 1 insSort.C (endBy (insSort.E c23) [.row ty2, .pure ty2, .pure ty2, .fn 23 [ty23]] [] Try.f45) n (insSort.mk1 a0 a1 a2 a3 s) = insSort.l1 c23 fuel a0 a1 a2 a3 n s :=
  loop_iter (fun k1 s => (insSort.b1_ev c23 fuel k1 a0 a1 a2 a3 s).trans (congrFun (congrFun (congrArg (insSort.b1 c23 a0 a1 a2 a3) (funext fun x1_2 => funext fun x1_6 => funext fun t => insSort.l4_ev c23 fuel k1 a0 a1 a2 a3 x1_2 x1_6 fuel t)) (fun t => k1 (insSort.mk1 a0 a1 a2 a3 t))) s)) n s
noncomputable def insSort.b (c23 : Int × Int × (List T41) × Unit → Option ((Int × Unit) × (Int × Int × (List T41) × Unit))) (a0 : (List Int)) (a1 : Int) (a2 : Int) (a3 : ((List T41) × Unit)) (i1 : (Int × (List T41)) → Option ((Unit) × ((List Int) × Int × Int × ((List T41) × Unit) × Unit))) : Option ((Unit) × ((List Int) × Int × Int × ((List T41) × Unit) × Unit)) :=
  i1 (Go.IntKind.i64.wrap (a1 + (1 : Int)), a3.fst)
theorem insSort.b_ev (c23 : Int × Int × (List T41) × Unit → Option ((Int × Unit) × (Int × Int × (List T41) × Unit))) (fuel : Nat) (a0 : (List Int)) (a1 : Int) (a2 : Int) (a3 : ((List T41) × Unit)) : evalBy (insSort.E c23) fuel Try.f45 insSort.C [.row ty2, .pure ty2, .pure ty2, .fn 23 [ty23]] [] (a0, a1, a2, a3, ()) =
    insSort.b c23 a0 a1 a2 a3 (fun t => loopAt (insSort.E c23) fuel 1 insSort.C (endBy (insSort.E c23) [.row ty2, .pure ty2, .pure ty2, .fn 23 [ty23]] [] Try.f45) fuel (insSort.mk1 a0 a1 a2 a3 t)) := by kernel_rfl
noncomputable def insSort.f (c23 : Int × Int × (List T41) × Unit → Option ((Int × Unit) × (Int × Int × (List T41) × Unit))) (fuel : Nat) (a0 : (List Int)) (a1 : Int) (a2 : Int) (a3 : ((List T41) × Unit)) : Option ((Unit) × ((List Int) × Int × Int × ((List T41) × Unit) × Unit)) := insSort.b c23 a0 a1 a2 a3 (fun t => insSort.l1 c23 fuel a0 a1 a2 a3 fuel t)
theorem insSort.ev (c23 : Int × Int × (List T41) × Unit → Option ((Int × Unit) × (Int × Int × (List T41) × Unit))) (fuel : Nat) (a0 : (List Int)) (a1 : Int) (a2 : Int) (a3 : ((List T41) × Unit)) : evalBy (insSort.E c23) fuel Try.f45 insSort.C [.row ty2, .pure ty2, .pure ty2, .fn 23 [ty23]] [] (a0, a1, a2, a3, ()) = insSort.f c23 fuel a0 a1 a2 a3 :=
  (insSort.b_ev c23 fuel a0 a1 a2 a3).trans (congrArg (insSort.b c23 a0 a1 a2 a3) (funext fun t => insSort.l1_ev c23 fuel a0 a1 a2 a3 fuel t))

/-! ### Pref -/
noncomputable def Pref.E : Env := envOf Try.prog (pick []) (pick []) (pick [])
noncomputable def Pref.C : Code := Try.f47.body.getD .skip
noncomputable def Pref.b (a0 : T36) : Option (Int × Unit) :=
  bif !a0.snd.snd.snd.snd.snd.fst then
    some ((100 : Int), PUnit.unit)
  else
    some (a0.snd.snd.snd.snd.snd.snd.fst, PUnit.unit)
theorem Pref.b_ev (fuel : Nat) (a0 : T36) : evalBody (Pref.E) fuel Try.f47 Pref.C [ty36] [.pure ty33] (a0, ()) =
    Pref.b a0 := by kernel_rfl
noncomputable def Pref.f (fuel : Nat) (a0 : T36) : Option (Int × Unit) := Pref.b a0
theorem Pref.ev (fuel : Nat) (a0 : T36) : evalBody (Pref.E) fuel Try.f47 Pref.C [ty36] [.pure ty33] (a0, ()) = Pref.f fuel a0 :=
  (Pref.b_ev fuel a0)

/-! ### Count -/
noncomputable def Count.E : Env := envOf Try.prog (pick []) (pick []) (pick [(3, [(3, none), (6, none), (7, none), (8, none)])])
noncomputable def Count.C : Code := Try.f48.body.getD .skip
noncomputable def Count.mk3 (a0 : (List T71)) (s : (Int × Int × Int)) : St := { tmps := slots 27 0 [(3, (.one (.pure ty2 s.1))), (6, (.one (.pure ty34 a0))), (7, (.one (.pure ty2 s.2.1))), (8, (.one (.pure ty2 s.2.2)))], st := [], next := 0 }
noncomputable def Count.b3 (a0 : (List T71)) (k3 : (Int × Int × Int) → Option (Int × Unit)) (s : (Int × Int × Int)) : Option (Int × Unit) :=
  match s with
  | (x3_0, x3_2, x3_3) =>
  bif Decidable.decide (x3_3 < x3_2) then
    bif Decidable.decide ((0 : Int) ≤ x3_3) && Decidable.decide (x3_3 < (↑(List.length a0) : Int)) then
      bif (List.getD a0 x3_3.toNat BE.ty71.dflt).fst == (2 : Int) then
        k3 (Go.IntKind.i64.wrap (x3_0 + (↑(List.length (List.getD a0 x3_3.toNat BE.ty71.dflt).snd) : Int)), x3_2, Go.IntKind.i64.wrap (x3_3 + (1 : Int)))
      else
        bif (List.getD a0 x3_3.toNat BE.ty71.dflt).fst == (1 : Int) then
          k3 (Go.IntKind.i64.wrap (x3_0 + (1 : Int)), x3_2, Go.IntKind.i64.wrap (x3_3 + (1 : Int)))
        else
          k3 (x3_0, x3_2, Go.IntKind.i64.wrap (x3_3 + (1 : Int)))
    else
      none
  else
    some (x3_0, PUnit.unit)
theorem Count.b3_ev (fuel : Nat) (k3 : St → Option (Int × Unit)) (a0 : (List T71)) (s : (Int × Int × Int)) :
    bodyAt (Count.E) fuel 3 Count.C (endK (Count.E) [.pure ty2] Try.f48) k3 (Count.mk3 a0 s) =
    Count.b3 a0 (fun t => k3 (Count.mk3 a0 t)) s := by kernel_rfl
noncomputable def Count.l3 (fuel : Nat) (a0 : (List T71)) (n : Nat) (s : (Int × Int × Int)) : Option (Int × Unit) :=
  iterN (fun k3 s => Count.b3 a0 k3 s) n s
theorem Count.l3_ev (fuel : Nat) (a0 : (List T71)) (n : Nat) (s : (Int × Int × Int)) :
    loopAt (Count.E) fuel 3 Count.C (endK (Count.E) [.pure ty2] Try.f48) n (Count.mk3 a0 s) = Count.l3 fuel a0 n s :=
  loop_iter (fun k3 s => (Count.b3_ev fuel k3 a0 s)) n s
noncomputable def Count.b (a0 : (List T71)) (i3 : (Int × Int × Int) → Option (Int × Unit)) : Option (Int × Unit) :=
  i3 ((0 : Int), (↑(List.length a0) : Int), (0 : Int))
theorem Count.b_ev (fuel : Nat) (a0 : (List T71)) : evalBody (Count.E) fuel Try.f48 Count.C [ty34] [.pure ty2] (a0, ()) =
    Count.b a0 (fun t => loopAt (Count.E) fuel 3 Count.C (endK (Count.E) [.pure ty2] Try.f48) fuel (Count.mk3 a0 t)) := by kernel_rfl
noncomputable def Count.f (fuel : Nat) (a0 : (List T71)) : Option (Int × Unit) := Count.b a0 (fun t => Count.l3 fuel a0 fuel t)
theorem Count.ev (fuel : Nat) (a0 : (List T71)) : evalBody (Count.E) fuel Try.f48 Count.C [ty34] [.pure ty2] (a0, ()) = Count.f fuel a0 :=
  (Count.b_ev fuel a0).trans (congrArg (Count.b a0) (funext fun t => Count.l3_ev fuel a0 fuel t))

/-! ### fellows -/
noncomputable def fellows.E (c60 : (List T71) × Unit → Option (Int × Bool × Unit)) : Env := envOf Try.prog (pick [(60, ⟨[ty34], [.pure ty33, .pure ty4], c60⟩)]) (pick []) (pick [])
noncomputable def fellows.C : Code := Try.f49.body.getD .skip
noncomputable def fellows.b (c60 : (List T71) × Unit → Option (Int × Bool × Unit)) (a0 : T36) (a1 : T36) : Option (Bool × Unit) :=
  (c60 (a0.snd.fst, ())).bind fun r0 =>
  (c60 (a1.snd.fst, ())).bind fun r1 =>
  bif r0.snd.fst == r1.snd.fst then
    some (r0.fst == r1.fst, PUnit.unit)
  else
    some (Bool.false, PUnit.unit)
theorem fellows.b_ev (c60 : (List T71) × Unit → Option (Int × Bool × Unit)) (fuel : Nat) (a0 : T36) (a1 : T36) : evalBody (fellows.E c60) fuel Try.f49 fellows.C [ty36, ty36] [.pure ty4] (a0, a1, ()) =
    fellows.b c60 a0 a1 := by kernel_rfl
noncomputable def fellows.f (c60 : (List T71) × Unit → Option (Int × Bool × Unit)) (fuel : Nat) (a0 : T36) (a1 : T36) : Option (Bool × Unit) := fellows.b c60 a0 a1
theorem fellows.ev (c60 : (List T71) × Unit → Option (Int × Bool × Unit)) (fuel : Nat) (a0 : T36) (a1 : T36) : evalBody (fellows.E c60) fuel Try.f49 fellows.C [ty36, ty36] [.pure ty4] (a0, a1, ()) = fellows.f c60 fuel a0 a1 :=
  (fellows.b_ev c60 fuel a0 a1)

/-! ### med -/
noncomputable def med.E : Env := envOf Try.prog (pick []) (pick []) (pick [])
noncomputable def med.C : Code := Try.f50.body.getD .skip
noncomputable def med.b (a0 : T36) : Option (Int × Unit) :=
  bif !a0.snd.snd.snd.fst then
    some ((0 : Int), PUnit.unit)
  else
    some (a0.snd.snd.snd.snd.fst, PUnit.unit)
theorem med.b_ev (fuel : Nat) (a0 : T36) : evalBody (med.E) fuel Try.f50 med.C [ty36] [.pure ty33] (a0, ()) =
    med.b a0 := by kernel_rfl
noncomputable def med.f (fuel : Nat) (a0 : T36) : Option (Int × Unit) := med.b a0
theorem med.ev (fuel : Nat) (a0 : T36) : evalBody (med.E) fuel Try.f50 med.C [ty36] [.pure ty33] (a0, ()) = med.f fuel a0 :=
  (med.b_ev fuel a0)

/-! ### Less -/
noncomputable def Less.E (c61 : Nat × Unit → Option (Nat × Unit)) : Env := envOf Try.prog (pick [(61, ⟨[ty40], [.pure ty40], c61⟩)]) (pick []) (pick [])
noncomputable def Less.C : Code := Try.f51.body.getD .skip
noncomputable def Less.b (c61 : Nat × Unit → Option (Nat × Unit)) (a0 : Nat) (a1 : Nat) : Option (Bool × Unit) :=
  (c61 (a0, ())).bind fun r0 =>
  (c61 (a1, ())).bind fun r1 =>
  some (Go.FloatKind.f64.format.order r0.fst r1.fst == Option.some Ordering.lt, PUnit.unit)
theorem Less.b_ev (c61 : Nat × Unit → Option (Nat × Unit)) (fuel : Nat) (a0 : Nat) (a1 : Nat) : evalBody (Less.E c61) fuel Try.f51 Less.C [ty40, ty40] [.pure ty4] (a0, a1, ()) =
    Less.b c61 a0 a1 := by kernel_rfl
noncomputable def Less.f (c61 : Nat × Unit → Option (Nat × Unit)) (fuel : Nat) (a0 : Nat) (a1 : Nat) : Option (Bool × Unit) := Less.b c61 a0 a1
theorem Less.ev (c61 : Nat × Unit → Option (Nat × Unit)) (fuel : Nat) (a0 : Nat) (a1 : Nat) : evalBody (Less.E c61) fuel Try.f51 Less.C [ty40, ty40] [.pure ty4] (a0, a1, ()) = Less.f c61 fuel a0 a1 :=
  (Less.b_ev c61 fuel a0 a1)

/-! ### Ahead -/
noncomputable def Ahead.E : Env := envOf Try.prog (pick []) (pick []) (pick [])
noncomputable def Ahead.C : Code := Try.f52.body.getD .skip
noncomputable def Ahead.b (a0 : T41) (a1 : T41) : Option (Bool × Unit) :=
  bif Decidable.decide (a0.fst.snd.fst < a1.fst.snd.fst) then
    some (Bool.true, PUnit.unit)
  else
    bif a0.fst.snd.fst == a1.fst.snd.fst then
      some (Decidable.decide (a0.fst.snd.snd.fst < a1.fst.snd.snd.fst), PUnit.unit)
    else
      some (Bool.false, PUnit.unit)
theorem Ahead.b_ev (fuel : Nat) (a0 : T41) (a1 : T41) : evalBody (Ahead.E) fuel Try.f52 Ahead.C [ty41, ty41] [.pure ty4] (a0, a1, ()) =
    Ahead.b a0 a1 := by kernel_rfl
noncomputable def Ahead.f (fuel : Nat) (a0 : T41) (a1 : T41) : Option (Bool × Unit) := Ahead.b a0 a1
theorem Ahead.ev (fuel : Nat) (a0 : T41) (a1 : T41) : evalBody (Ahead.E) fuel Try.f52 Ahead.C [ty41, ty41] [.pure ty4] (a0, a1, ()) = Ahead.f fuel a0 a1 :=
  (Ahead.b_ev fuel a0 a1)

/-! ### worse -/
noncomputable def worse.E (c75 : T36 × Unit → Option (Int × Unit)) (c76 : (List T71) × Unit → Option (Int × Unit)) (c77 : T36 × T36 × Unit → Option (Bool × Unit)) (c78 : T36 × Unit → Option (Int × Unit)) (c79 : Nat × Nat × Unit → Option (Bool × Unit)) : Env := envOf Try.prog (pick [(75, ⟨[ty36], [.pure ty33], c75⟩), (76, ⟨[ty34], [.pure ty2], c76⟩), (77, ⟨[ty36, ty36], [.pure ty4], c77⟩), (78, ⟨[ty36], [.pure ty33], c78⟩), (79, ⟨[ty40, ty40], [.pure ty4], c79⟩)]) (pick []) (pick [])
noncomputable def worse.C : Code := Try.f57.body.getD .skip
noncomputable def worse.b (c75 : T36 × Unit → Option (Int × Unit)) (c76 : (List T71) × Unit → Option (Int × Unit)) (c77 : T36 × T36 × Unit → Option (Bool × Unit)) (c78 : T36 × Unit → Option (Int × Unit)) (c79 : Nat × Nat × Unit → Option (Bool × Unit)) (a0 : T41) (a1 : T41) (a2 : Int) : Option (Bool × Unit) :=
  bif a2 == (1 : Int) then
    (c75 (a0.fst.snd.snd.snd.snd, ())).bind fun r6 =>
    (c75 (a1.fst.snd.snd.snd.snd, ())).bind fun r7 =>
    some (Decidable.decide (r6.fst < r7.fst), PUnit.unit)
  else
    bif a2 == (2 : Int) then
      (c76 (a0.fst.snd.snd.snd.snd.snd.fst, ())).bind fun r4 =>
      (c76 (a1.fst.snd.snd.snd.snd.snd.fst, ())).bind fun r5 =>
      some (Decidable.decide (r4.fst > r5.fst), PUnit.unit)
    else
      bif a2 == (3 : Int) then
        some (Decidable.decide (a0.fst.snd.snd.snd.snd.fst > a1.fst.snd.snd.snd.snd.fst), PUnit.unit)
      else
        bif a2 == (4 : Int) then
          (c77 (a0.fst.snd.snd.snd.snd, a1.fst.snd.snd.snd.snd, ())).bind fun r1 =>
          bif r1.fst then
            (c78 (a0.fst.snd.snd.snd.snd, ())).bind fun r2 =>
            (c78 (a1.fst.snd.snd.snd.snd, ())).bind fun r3 =>
            some (Decidable.decide (r2.fst > r3.fst), PUnit.unit)
          else
            some (Bool.false, PUnit.unit)
        else
          bif a2 == (5 : Int) then
            bif a0.fst.snd.snd.snd.fst then
              some (!a1.fst.snd.snd.snd.fst, PUnit.unit)
            else
              some (Bool.false, PUnit.unit)
          else
            bif a2 == (6 : Int) then
              (c79 (a1.snd, a0.snd, ())).bind fun r0 =>
              some (r0.fst, PUnit.unit)
            else
              bif Decidable.decide (a0.fst.snd.fst > a1.fst.snd.fst) then
                some (Bool.true, PUnit.unit)
              else
                bif a0.fst.snd.fst == a1.fst.snd.fst then
                  some (Decidable.decide (a0.fst.snd.snd.fst > a1.fst.snd.snd.fst), PUnit.unit)
                else
                  some (Bool.false, PUnit.unit)
theorem worse.b_ev (c75 : T36 × Unit → Option (Int × Unit)) (c76 : (List T71) × Unit → Option (Int × Unit)) (c77 : T36 × T36 × Unit → Option (Bool × Unit)) (c78 : T36 × Unit → Option (Int × Unit)) (c79 : Nat × Nat × Unit → Option (Bool × Unit)) (fuel : Nat) (a0 : T41) (a1 : T41) (a2 : Int) : evalBody (worse.E c75 c76 c77 c78 c79) fuel Try.f57 worse.C [ty41, ty41, ty2] [.pure ty4] (a0, a1, a2, ()) =
    worse.b c75 c76 c77 c78 c79 a0 a1 a2 := by kernel_rfl
noncomputable def worse.f (c75 : T36 × Unit → Option (Int × Unit)) (c76 : (List T71) × Unit → Option (Int × Unit)) (c77 : T36 × T36 × Unit → Option (Bool × Unit)) (c78 : T36 × Unit → Option (Int × Unit)) (c79 : Nat × Nat × Unit → Option (Bool × Unit)) (fuel : Nat) (a0 : T41) (a1 : T41) (a2 : Int) : Option (Bool × Unit) := worse.b c75 c76 c77 c78 c79 a0 a1 a2
theorem worse.ev (c75 : T36 × Unit → Option (Int × Unit)) (c76 : (List T71) × Unit → Option (Int × Unit)) (c77 : T36 × T36 × Unit → Option (Bool × Unit)) (c78 : T36 × Unit → Option (Int × Unit)) (c79 : Nat × Nat × Unit → Option (Bool × Unit)) (fuel : Nat) (a0 : T41) (a1 : T41) (a2 : Int) : evalBody (worse.E c75 c76 c77 c78 c79) fuel Try.f57 worse.C [ty41, ty41, ty2] [.pure ty4] (a0, a1, a2, ()) = worse.f c75 c76 c77 c78 c79 fuel a0 a1 a2 :=
  (worse.b_ev c75 c76 c77 c78 c79 fuel a0 a1 a2)

/-! ### total -/
noncomputable def total.E : Env := envOf Try.prog (pick []) (pick []) (pick [(3, [(0, none), (3, none), (4, none)])])
noncomputable def total.C : Code := Try.f58.body.getD .skip
noncomputable def total.mk3 (a0 : (List Nat)) (s : (Nat × Int)) : St := { tmps := slots 18 0 [(0, (.one (.pure ty65 a0))), (3, (.one (.pure ty40 s.1))), (4, (.one (.pure ty2 s.2)))], st := [], next := 0 }
noncomputable def total.b3 (a0 : (List Nat)) (k3 : (Nat × Int) → Option (Nat × Unit)) (s : (Nat × Int)) : Option (Nat × Unit) :=
  match s with
  | (x3_1, x3_2) =>
  bif Decidable.decide (x3_2 < (↑(List.length a0) : Int)) then
    bif Decidable.decide ((0 : Int) ≤ x3_2) && Decidable.decide (x3_2 < (↑(List.length a0) : Int)) then
      bif (Go.FloatKind.f64.format.add x3_1 (List.getD a0 x3_2.toNat (0 : Nat))).isSome then
        k3 ((Go.FloatKind.f64.format.add x3_1 (List.getD a0 x3_2.toNat (0 : Nat))).getD (0 : Nat), Go.IntKind.i64.wrap (x3_2 + (1 : Int)))
      else
        none
    else
      none
  else
    some (x3_1, PUnit.unit)
theorem total.b3_ev (fuel : Nat) (k3 : St → Option (Nat × Unit)) (a0 : (List Nat)) (s : (Nat × Int)) :
    bodyAt (total.E) fuel 3 total.C (endK (total.E) [.pure ty40] Try.f58) k3 (total.mk3 a0 s) =
    total.b3 a0 (fun t => k3 (total.mk3 a0 t)) s := by kernel_rfl
noncomputable def total.l3 (fuel : Nat) (a0 : (List Nat)) (n : Nat) (s : (Nat × Int)) : Option (Nat × Unit) :=
  iterN (fun k3 s => total.b3 a0 k3 s) n s
theorem total.l3_ev (fuel : Nat) (a0 : (List Nat)) (n : Nat) (s : (Nat × Int)) :
    loopAt (total.E) fuel 3 total.C (endK (total.E) [.pure ty40] Try.f58) n (total.mk3 a0 s) = total.l3 fuel a0 n s :=
  loop_iter (fun k3 s => (total.b3_ev fuel k3 a0 s)) n s
noncomputable def total.b (a0 : (List Nat)) (i3 : (Nat × Int) → Option (Nat × Unit)) : Option (Nat × Unit) :=
  i3 ((0 : Nat), (0 : Int))
theorem total.b_ev (fuel : Nat) (a0 : (List Nat)) : evalBody (total.E) fuel Try.f58 total.C [ty65] [.pure ty40] (a0, ()) =
    total.b a0 (fun t => loopAt (total.E) fuel 3 total.C (endK (total.E) [.pure ty40] Try.f58) fuel (total.mk3 a0 t)) := by kernel_rfl
noncomputable def total.f (fuel : Nat) (a0 : (List Nat)) : Option (Nat × Unit) := total.b a0 (fun t => total.l3 fuel a0 fuel t)
theorem total.ev (fuel : Nat) (a0 : (List Nat)) : evalBody (total.E) fuel Try.f58 total.C [ty65] [.pure ty40] (a0, ()) = total.f fuel a0 :=
  (total.b_ev fuel a0).trans (congrArg (total.b a0) (funext fun t => total.l3_ev fuel a0 fuel t))

/-! ### First -/
noncomputable def First.E : Env := envOf Try.prog (pick []) (pick []) (pick [])
noncomputable def First.C : Code := Try.f60.body.getD .skip
noncomputable def First.b (a0 : (List T71)) : Option (Int × Bool × Unit) :=
  bif (↑(List.length a0) : Int) == (0 : Int) then
    some ((0 : Int), (Bool.false, PUnit.unit))
  else
    bif Decidable.decide ((0 : Int) < (↑(List.length a0) : Int)) then
      bif (List.getD a0 (0 : Nat) BE.ty71.dflt).fst != (2 : Int) then
        some ((0 : Int), (Bool.false, PUnit.unit))
      else
        bif Decidable.decide ((0 : Int) < (↑(List.length a0) : Int)) then
          bif (↑(List.length (List.getD a0 (0 : Nat) BE.ty71.dflt).snd) : Int) == (0 : Int) then
            some ((0 : Int), (Bool.false, PUnit.unit))
          else
            bif Decidable.decide ((0 : Int) < (↑(List.length a0) : Int)) then
              bif Decidable.decide ((0 : Int) < (↑(List.length (List.getD a0 (0 : Nat) BE.ty71.dflt).snd) : Int)) then
                some (List.getD (List.getD a0 (0 : Nat) BE.ty71.dflt).snd (0 : Nat) (0 : Int), (Bool.true, PUnit.unit))
              else
                none
            else
              none
        else
          none
    else
      none
theorem First.b_ev (fuel : Nat) (a0 : (List T71)) : evalBody (First.E) fuel Try.f60 First.C [ty34] [.pure ty33, .pure ty4] (a0, ()) =
    First.b a0 := by kernel_rfl
noncomputable def First.f (fuel : Nat) (a0 : (List T71)) : Option (Int × Bool × Unit) := First.b a0
theorem First.ev (fuel : Nat) (a0 : (List T71)) : evalBody (First.E) fuel Try.f60 First.C [ty34] [.pure ty33, .pure ty4] (a0, ()) = First.f fuel a0 :=
  (First.b_ev fuel a0)

/-! ### Clean -/
noncomputable def Clean.E (c81 : Nat × Unit → Option (Bool × Unit)) (c82 : Int × Unit → Option (Nat × Unit)) : Env := envOf Try.prog (pick [(81, ⟨[ty40], [.pure ty4], c81⟩), (82, ⟨[ty2], [.pure ty40], c82⟩)]) (pick []) (pick [])
noncomputable def Clean.C : Code := Try.f61.body.getD .skip
noncomputable def Clean.b (c81 : Nat × Unit → Option (Bool × Unit)) (c82 : Int × Unit → Option (Nat × Unit)) (a0 : Nat) : Option (Nat × Unit) :=
  (c81 (a0, ())).bind fun r0 =>
  bif !r0.fst then
    (c82 ((1 : Int), ())).bind fun r1 =>
    some (r1.fst, PUnit.unit)
  else
    bif Go.FloatKind.f64.format.order a0 (0 : Nat) == Option.some Ordering.eq then
      some ((0 : Nat), PUnit.unit)
    else
      some (a0, PUnit.unit)
theorem Clean.b_ev (c81 : Nat × Unit → Option (Bool × Unit)) (c82 : Int × Unit → Option (Nat × Unit)) (fuel : Nat) (a0 : Nat) : evalBody (Clean.E c81 c82) fuel Try.f61 Clean.C [ty40] [.pure ty40] (a0, ()) =
    Clean.b c81 c82 a0 := by kernel_rfl
noncomputable def Clean.f (c81 : Nat × Unit → Option (Bool × Unit)) (c82 : Int × Unit → Option (Nat × Unit)) (fuel : Nat) (a0 : Nat) : Option (Nat × Unit) := Clean.b c81 c82 a0
theorem Clean.ev (c81 : Nat × Unit → Option (Bool × Unit)) (c82 : Int × Unit → Option (Nat × Unit)) (fuel : Nat) (a0 : Nat) : evalBody (Clean.E c81 c82) fuel Try.f61 Clean.C [ty40] [.pure ty40] (a0, ()) = Clean.f c81 c82 fuel a0 :=
  (Clean.b_ev c81 c82 fuel a0)

/-! ### rPref -/
noncomputable def rPref.E : Env := envOf Try.prog (pick []) (pick []) (pick [])
noncomputable def rPref.C : Code := Try.f75.body.getD .skip
noncomputable def rPref.b (a0 : T36) : Option (Int × Unit) :=
  bif a0.snd.snd.snd.snd.snd.fst then
    some (a0.snd.snd.snd.snd.snd.snd.fst, PUnit.unit)
  else
    some ((100 : Int), PUnit.unit)
theorem rPref.b_ev (fuel : Nat) (a0 : T36) : evalBody (rPref.E) fuel Try.f75 rPref.C [ty36] [.pure ty33] (a0, ()) =
    rPref.b a0 := by kernel_rfl
noncomputable def rPref.f (fuel : Nat) (a0 : T36) : Option (Int × Unit) := rPref.b a0
theorem rPref.ev (fuel : Nat) (a0 : T36) : evalBody (rPref.E) fuel Try.f75 rPref.C [ty36] [.pure ty33] (a0, ()) = rPref.f fuel a0 :=
  (rPref.b_ev fuel a0)

/-! ### rCount -/
noncomputable def rCount.E : Env := envOf Try.prog (pick []) (pick []) (pick [(3, [(0, none), (3, none), (4, none)])])
noncomputable def rCount.C : Code := Try.f76.body.getD .skip
noncomputable def rCount.mk3 (a0 : (List T71)) (s : (Int × Int)) : St := { tmps := slots 31 0 [(0, (.one (.pure ty34 a0))), (3, (.one (.pure ty2 s.1))), (4, (.one (.pure ty2 s.2)))], st := [], next := 0 }
noncomputable def rCount.b3 (a0 : (List T71)) (k3 : (Int × Int) → Option (Int × Unit)) (s : (Int × Int)) : Option (Int × Unit) :=
  match s with
  | (x3_1, x3_2) =>
  bif Decidable.decide (x3_2 < (↑(List.length a0) : Int)) then
    bif Decidable.decide ((0 : Int) ≤ x3_2) && Decidable.decide (x3_2 < (↑(List.length a0) : Int)) then
      bif (List.getD a0 x3_2.toNat BE.ty71.dflt).fst == (1 : Int) then
        k3 (Go.IntKind.i64.wrap (x3_1 + (1 : Int)), Go.IntKind.i64.wrap (x3_2 + (1 : Int)))
      else
        bif (List.getD a0 x3_2.toNat BE.ty71.dflt).fst == (2 : Int) then
          bif Decidable.decide ((0 : Int) ≤ x3_2) && Decidable.decide (x3_2 < (↑(List.length a0) : Int)) then
            k3 (Go.IntKind.i64.wrap (x3_1 + (↑(List.length (List.getD a0 x3_2.toNat BE.ty71.dflt).snd) : Int)), Go.IntKind.i64.wrap (x3_2 + (1 : Int)))
          else
            none
        else
          k3 (x3_1, Go.IntKind.i64.wrap (x3_2 + (1 : Int)))
    else
      none
  else
    some (x3_1, PUnit.unit)
theorem rCount.b3_ev (fuel : Nat) (k3 : St → Option (Int × Unit)) (a0 : (List T71)) (s : (Int × Int)) :
    bodyAt (rCount.E) fuel 3 rCount.C (endK (rCount.E) [.pure ty2] Try.f76) k3 (rCount.mk3 a0 s) =
    rCount.b3 a0 (fun t => k3 (rCount.mk3 a0 t)) s := by kernel_rfl
noncomputable def rCount.l3 (fuel : Nat) (a0 : (List T71)) (n : Nat) (s : (Int × Int)) : Option (Int × Unit) :=
  iterN (fun k3 s => rCount.b3 a0 k3 s) n s
theorem rCount.l3_ev (fuel : Nat) (a0 : (List T71)) (n : Nat) (s : (Int × Int)) :
    loopAt (rCount.E) fuel 3 rCount.C (endK (rCount.E) [.pure ty2] Try.f76) n (rCount.mk3 a0 s) = rCount.l3 fuel a0 n s :=
  loop_iter (fun k3 s => (rCount.b3_ev fuel k3 a0 s)) n s
noncomputable def rCount.b (a0 : (List T71)) (i3 : (Int × Int) → Option (Int × Unit)) : Option (Int × Unit) :=
  i3 ((0 : Int), (0 : Int))
theorem rCount.b_ev (fuel : Nat) (a0 : (List T71)) : evalBody (rCount.E) fuel Try.f76 rCount.C [ty34] [.pure ty2] (a0, ()) =
    rCount.b a0 (fun t => loopAt (rCount.E) fuel 3 rCount.C (endK (rCount.E) [.pure ty2] Try.f76) fuel (rCount.mk3 a0 t)) := by kernel_rfl
noncomputable def rCount.f (fuel : Nat) (a0 : (List T71)) : Option (Int × Unit) := rCount.b a0 (fun t => rCount.l3 fuel a0 fuel t)
theorem rCount.ev (fuel : Nat) (a0 : (List T71)) : evalBody (rCount.E) fuel Try.f76 rCount.C [ty34] [.pure ty2] (a0, ()) = rCount.f fuel a0 :=
  (rCount.b_ev fuel a0).trans (congrArg (rCount.b a0) (funext fun t => rCount.l3_ev fuel a0 fuel t))

/-! ### neighbour -/
noncomputable def neighbour.E (c89 : (List T71) × Unit → Option (Int × Bool × Unit)) : Env := envOf Try.prog (pick [(89, ⟨[ty34], [.pure ty33, .pure ty4], c89⟩)]) (pick []) (pick [])
noncomputable def neighbour.C : Code := Try.f77.body.getD .skip
noncomputable def neighbour.b (c89 : (List T71) × Unit → Option (Int × Bool × Unit)) (a0 : T36) (a1 : T36) : Option (Bool × Unit) :=
  (c89 (a0.snd.fst, ())).bind fun r0 =>
  (c89 (a1.snd.fst, ())).bind fun r1 =>
  bif r0.snd.fst == r1.snd.fst then
    some (r0.fst == r1.fst, PUnit.unit)
  else
    some (Bool.false, PUnit.unit)
theorem neighbour.b_ev (c89 : (List T71) × Unit → Option (Int × Bool × Unit)) (fuel : Nat) (a0 : T36) (a1 : T36) : evalBody (neighbour.E c89) fuel Try.f77 neighbour.C [ty36, ty36] [.pure ty4] (a0, a1, ()) =
    neighbour.b c89 a0 a1 := by kernel_rfl
noncomputable def neighbour.f (c89 : (List T71) × Unit → Option (Int × Bool × Unit)) (fuel : Nat) (a0 : T36) (a1 : T36) : Option (Bool × Unit) := neighbour.b c89 a0 a1
theorem neighbour.ev (c89 : (List T71) × Unit → Option (Int × Bool × Unit)) (fuel : Nat) (a0 : T36) (a1 : T36) : evalBody (neighbour.E c89) fuel Try.f77 neighbour.C [ty36, ty36] [.pure ty4] (a0, a1, ()) = neighbour.f c89 fuel a0 a1 :=
  (neighbour.b_ev c89 fuel a0 a1)

/-! ### rmed -/
noncomputable def rmed.E : Env := envOf Try.prog (pick []) (pick []) (pick [])
noncomputable def rmed.C : Code := Try.f78.body.getD .skip
noncomputable def rmed.b (a0 : T36) : Option (Int × Unit) :=
  bif a0.snd.snd.snd.fst then
    some (a0.snd.snd.snd.snd.fst, PUnit.unit)
  else
    some ((0 : Int), PUnit.unit)
theorem rmed.b_ev (fuel : Nat) (a0 : T36) : evalBody (rmed.E) fuel Try.f78 rmed.C [ty36] [.pure ty33] (a0, ()) =
    rmed.b a0 := by kernel_rfl
noncomputable def rmed.f (fuel : Nat) (a0 : T36) : Option (Int × Unit) := rmed.b a0
theorem rmed.ev (fuel : Nat) (a0 : T36) : evalBody (rmed.E) fuel Try.f78 rmed.C [ty36] [.pure ty33] (a0, ()) = rmed.f fuel a0 :=
  (rmed.b_ev fuel a0)

/-! ### rLess -/
noncomputable def rLess.E (c90 : Nat × Unit → Option (Nat × Unit)) : Env := envOf Try.prog (pick [(90, ⟨[ty40], [.pure ty40], c90⟩)]) (pick []) (pick [])
noncomputable def rLess.C : Code := Try.f79.body.getD .skip
noncomputable def rLess.b (c90 : Nat × Unit → Option (Nat × Unit)) (a0 : Nat) (a1 : Nat) : Option (Bool × Unit) :=
  (c90 (a0, ())).bind fun r0 =>
  (c90 (a1, ())).bind fun r1 =>
  some (Go.FloatKind.f64.format.order r0.fst r1.fst == Option.some Ordering.lt, PUnit.unit)
theorem rLess.b_ev (c90 : Nat × Unit → Option (Nat × Unit)) (fuel : Nat) (a0 : Nat) (a1 : Nat) : evalBody (rLess.E c90) fuel Try.f79 rLess.C [ty40, ty40] [.pure ty4] (a0, a1, ()) =
    rLess.b c90 a0 a1 := by kernel_rfl
noncomputable def rLess.f (c90 : Nat × Unit → Option (Nat × Unit)) (fuel : Nat) (a0 : Nat) (a1 : Nat) : Option (Bool × Unit) := rLess.b c90 a0 a1
theorem rLess.ev (c90 : Nat × Unit → Option (Nat × Unit)) (fuel : Nat) (a0 : Nat) (a1 : Nat) : evalBody (rLess.E c90) fuel Try.f79 rLess.C [ty40, ty40] [.pure ty4] (a0, a1, ()) = rLess.f c90 fuel a0 a1 :=
  (rLess.b_ev c90 fuel a0 a1)

/-! ### Right -/
noncomputable def Right.E : Env := envOf Try.prog (pick []) (pick []) (pick [])
noncomputable def Right.C : Code := Try.f81.body.getD .skip
noncomputable def Right.b (a0 : Nat) : Option (Bool × Unit) :=
  some (Go.FloatKind.f64.format.order a0 (0 : Nat) == Option.some Ordering.gt || Go.FloatKind.f64.format.order a0 (0 : Nat) == Option.some Ordering.eq, PUnit.unit)
theorem Right.b_ev (fuel : Nat) (a0 : Nat) : evalBody (Right.E) fuel Try.f81 Right.C [ty40] [.pure ty4] (a0, ()) =
    Right.b a0 := by kernel_rfl
noncomputable def Right.f (fuel : Nat) (a0 : Nat) : Option (Bool × Unit) := Right.b a0
theorem Right.ev (fuel : Nat) (a0 : Nat) : evalBody (Right.E) fuel Try.f81 Right.C [ty40] [.pure ty4] (a0, ()) = Right.f fuel a0 :=
  (Right.b_ev fuel a0)

/-! ### rFirst -/
noncomputable def rFirst.E : Env := envOf Try.prog (pick []) (pick []) (pick [])
noncomputable def rFirst.C : Code := Try.f89.body.getD .skip
noncomputable def rFirst.b (a0 : (List T71)) : Option (Int × Bool × Unit) :=
  bif (↑(List.length a0) : Int) == (0 : Int) then
    some ((0 : Int), (Bool.false, PUnit.unit))
  else
    bif Decidable.decide ((0 : Int) < (↑(List.length a0) : Int)) then
      bif (List.getD a0 (0 : Nat) BE.ty71.dflt).fst != (2 : Int) then
        some ((0 : Int), (Bool.false, PUnit.unit))
      else
        bif Decidable.decide ((0 : Int) < (↑(List.length a0) : Int)) then
          bif (↑(List.length (List.getD a0 (0 : Nat) BE.ty71.dflt).snd) : Int) == (0 : Int) then
            some ((0 : Int), (Bool.false, PUnit.unit))
          else
            bif Decidable.decide ((0 : Int) < (↑(List.length a0) : Int)) then
              bif Decidable.decide ((0 : Int) < (↑(List.length (List.getD a0 (0 : Nat) BE.ty71.dflt).snd) : Int)) then
                some (List.getD (List.getD a0 (0 : Nat) BE.ty71.dflt).snd (0 : Nat) (0 : Int), (Bool.true, PUnit.unit))
              else
                none
            else
              none
        else
          none
    else
      none
theorem rFirst.b_ev (fuel : Nat) (a0 : (List T71)) : evalBody (rFirst.E) fuel Try.f89 rFirst.C [ty34] [.pure ty33, .pure ty4] (a0, ()) =
    rFirst.b a0 := by kernel_rfl
noncomputable def rFirst.f (fuel : Nat) (a0 : (List T71)) : Option (Int × Bool × Unit) := rFirst.b a0
theorem rFirst.ev (fuel : Nat) (a0 : (List T71)) : evalBody (rFirst.E) fuel Try.f89 rFirst.C [ty34] [.pure ty33, .pure ty4] (a0, ()) = rFirst.f fuel a0 :=
  (rFirst.b_ev fuel a0)

/-! ### rClean -/
noncomputable def rClean.E (c92 : Nat × Unit → Option (Bool × Unit)) (c82 : Int × Unit → Option (Nat × Unit)) : Env := envOf Try.prog (pick [(92, ⟨[ty40], [.pure ty4], c92⟩), (82, ⟨[ty2], [.pure ty40], c82⟩)]) (pick []) (pick [])
noncomputable def rClean.C : Code := Try.f90.body.getD .skip
noncomputable def rClean.b (c92 : Nat × Unit → Option (Bool × Unit)) (c82 : Int × Unit → Option (Nat × Unit)) (a0 : Nat) : Option (Nat × Unit) :=
  (c92 (a0, ())).bind fun r0 =>
  bif !r0.fst then
    (c82 ((1 : Int), ())).bind fun r1 =>
    some (r1.fst, PUnit.unit)
  else
    bif Go.FloatKind.f64.format.order a0 (0 : Nat) == Option.some Ordering.eq then
      some ((0 : Nat), PUnit.unit)
    else
      some (a0, PUnit.unit)
theorem rClean.b_ev (c92 : Nat × Unit → Option (Bool × Unit)) (c82 : Int × Unit → Option (Nat × Unit)) (fuel : Nat) (a0 : Nat) : evalBody (rClean.E c92 c82) fuel Try.f90 rClean.C [ty40] [.pure ty40] (a0, ()) =
    rClean.b c92 c82 a0 := by kernel_rfl
noncomputable def rClean.f (c92 : Nat × Unit → Option (Bool × Unit)) (c82 : Int × Unit → Option (Nat × Unit)) (fuel : Nat) (a0 : Nat) : Option (Nat × Unit) := rClean.b c92 c82 a0
theorem rClean.ev (c92 : Nat × Unit → Option (Bool × Unit)) (c82 : Int × Unit → Option (Nat × Unit)) (fuel : Nat) (a0 : Nat) : evalBody (rClean.E c92 c82) fuel Try.f90 rClean.C [ty40] [.pure ty40] (a0, ()) = rClean.f c92 c82 fuel a0 :=
  (rClean.b_ev c92 c82 fuel a0)

/-! ### rRight -/
noncomputable def rRight.E : Env := envOf Try.prog (pick []) (pick []) (pick [])
noncomputable def rRight.C : Code := Try.f92.body.getD .skip
noncomputable def rRight.b (a0 : Nat) : Option (Bool × Unit) :=
  some (Go.FloatKind.f64.format.order a0 (0 : Nat) == Option.some Ordering.gt || Go.FloatKind.f64.format.order a0 (0 : Nat) == Option.some Ordering.eq, PUnit.unit)
theorem rRight.b_ev (fuel : Nat) (a0 : Nat) : evalBody (rRight.E) fuel Try.f92 rRight.C [ty40] [.pure ty4] (a0, ()) =
    rRight.b a0 := by kernel_rfl
noncomputable def rRight.f (fuel : Nat) (a0 : Nat) : Option (Bool × Unit) := rRight.b a0
theorem rRight.ev (fuel : Nat) (a0 : Nat) : evalBody (rRight.E) fuel Try.f92 rRight.C [ty40] [.pure ty4] (a0, ()) = rRight.f fuel a0 :=
  (rRight.b_ev fuel a0)

end BE