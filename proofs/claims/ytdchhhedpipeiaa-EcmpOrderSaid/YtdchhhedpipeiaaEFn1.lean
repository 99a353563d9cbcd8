import Derived.Test.YtdchhhedpipeiaaEFn0
set_option linter.unusedVariables false
set_option maxRecDepth 100000
open Go Go.Ev Go.Proofs
namespace BE
/-! ### Widths -/
noncomputable def Widths.E (c9 : (List T53) × Bool × Unit → Option (List T41 × List Int × Unit)) (c10 : Int × Int × Int × Unit → Option (Int × Unit)) (c11 : (List T41) × (List Int) × Int × Unit → Option (List Int × Unit)) (c12 : (List T41) × Int × Unit → Option (List Int × Unit)) (c13 : (List Int) × (List Int) × Unit → Option (Bool × Unit)) (c14 : Unit → Option (Bool × Unit)) : Env := envOf Try.prog (pick [(9, ⟨[ty22, ty4], [.fresh ty41, .fresh ty2], c9⟩), (10, ⟨[ty2, ty2, ty2], [.pure ty2], c10⟩), (11, ⟨[ty23, ty24, ty2], [.fresh ty2], c11⟩), (12, ⟨[ty23, ty2], [.fresh ty2], c12⟩), (13, ⟨[ty24, ty24], [.pure ty4], c13⟩), (14, ⟨[], [.pure ty4], c14⟩)]) (pick []) (pick [(10, [(12, none), (13, none), (14, none)]), (14, [(12, none), (13, none), (14, none), (15, none), (16, none)])])
noncomputable def Widths.C : Code := Try.f3.body.getD .skip
noncomputable def Widths.mk10 (a0 : (List T53)) (a1 : Int) (a2 : Int) (s : (Int × (List Int) × (List Int))) : St := { tmps := slots 108 0 [(12, (.one (.own 0))), (13, (.one (.own 1))), (14, (.one (.pure ty2 s.1)))], st := [(0, (.row ty2 s.2.1)), (1, (.row ty2 s.2.2))], next := 2 }
noncomputable def Widths.mk14 (a0 : (List T53)) (a1 : Int) (a2 : Int) (x10_0 : Int) (x10_1 : (List Int)) (x10_2 : (List Int)) (s : (Bool × Int)) : St := { tmps := slots 108 0 [(12, (.one (.own 0))), (13, (.one (.own 1))), (14, (.one (.pure ty2 x10_0))), (15, (.one (.pure ty4 s.1))), (16, (.one (.pure ty2 s.2)))], st := [(0, (.row ty2 x10_1)), (1, (.row ty2 x10_2))], next := 2 }
noncomputable def Widths.C10 (c9 : (List T53) × Bool × Unit → Option (List T41 × List Int × Unit)) (c10 : Int × Int × Int × Unit → Option (Int × Unit)) (c11 : (List T41) × (List Int) × Int × Unit → Option (List Int × Unit)) (c12 : (List T41) × Int × Unit → Option (List Int × Unit)) (c13 : (List Int) × (List Int) × Unit → Option (Bool × Unit)) (c14 : Unit → Option (Bool × Unit)) (fuel : Nat) : Code := codeAt (Widths.E c9 c10 c11 c12 c13 c14) fuel 10 Widths.C
noncomputable def Widths.K10 (c9 : (List T53) × Bool × Unit → Option (List T41 × List Int × Unit)) (c10 : Int × Int × Int × Unit → Option (Int × Unit)) (c11 : (List T41) × (List Int) × Int × Unit → Option (List Int × Unit)) (c12 : (List T41) × Int × Unit → Option (List Int × Unit)) (c13 : (List Int) × (List Int) × Unit → Option (Bool × Unit)) (c14 : Unit → Option (Bool × Unit)) (fuel : Nat) (k10 : St → Option (Bool × Unit)) : Ex → St → Option (Bool × Unit) := contAt (Widths.E c9 c10 c11 c12 c13 c14) fuel 10 Widths.C (endK (Widths.E c9 c10 c11 c12 c13 c14) [.pure ty4] Try.f3) k10
noncomputable def Widths.b14 (c9 : (List T53) × Bool × Unit → Option (List T41 × List Int × Unit)) (c10 : Int × Int × Int × Unit → Option (Int × Unit)) (c11 : (List T41) × (List Int) × Int × Unit → Option (List Int × Unit)) (c12 : (List T41) × Int × Unit → Option (List Int × Unit)) (c13 : (List Int) × (List Int) × Unit → Option (Bool × Unit)) (c14 : Unit → Option (Bool × Unit)) (a0 : (List T53)) (a1 : Int) (a2 : Int) (x10_0 : Int) (x10_1 : (List Int)) (x10_2 : (List Int)) (k10 : (Int × (List Int) × (List Int)) → Option (Bool × Unit)) (k14 : (Bool × Int) → Option (Bool × Unit)) (s : (Bool × Int)) : Option (Bool × Unit) :=
  match s with
  | (x14_1, x14_2) =>
  bif Decidable.decide (x14_2 < (↑x10_2.length : Int)) then
    bif x14_1 then
      k14 (Bool.true, Go.IntKind.i64.wrap (x14_2 + (1 : Int)))
    else
      bif Decidable.decide ((0 : Int) ≤ x14_2) && Decidable.decide (x14_2 < (↑x10_2.length : Int)) then
        bif Decidable.decide ((0 : Int) ≤ x10_0) && Decidable.decide (x10_0 < (↑x10_1.length : Int)) then
          k14 (x10_2.getD x14_2.toNat (0 : Int) == x10_1.getD x10_0.toNat (0 : Int), Go.IntKind.i64.wrap (x14_2 + (1 : Int)))
        else
          none
      else
        none
  else
    bif !x14_1 then
      some (Bool.false, PUnit.unit)
    else
      k10 (Go.IntKind.i64.wrap (x10_0 + (1 : Int)), x10_1, x10_2)
theorem Widths.b14_ev (c9 : (List T53) × Bool × Unit → Option (List T41 × List Int × Unit)) (c10 : Int × Int × Int × Unit → Option (Int × Unit)) (c11 : (List T41) × (List Int) × Int × Unit → Option (List Int × Unit)) (c12 : (List T41) × Int × Unit → Option (List Int × Unit)) (c13 : (List Int) × (List Int) × Unit → Option (Bool × Unit)) (c14 : Unit → Option (Bool × Unit)) (fuel : Nat) (k10 : St → Option (Bool × Unit)) (k14 : St → Option (Bool × Unit)) (a0 : (List T53)) (a1 : Int) (a2 : Int) (x10_0 : Int) (x10_1 : (List Int)) (x10_2 : (List Int)) (s : (Bool × Int)) :
    bodyAt (Widths.E c9 c10 c11 c12 c13 c14) fuel 14 (Widths.C10 c9 c10 c11 c12 c13 c14 fuel) (Widths.K10 c9 c10 c11 c12 c13 c14 fuel k10) k14 (Widths.mk14 a0 a1 a2 x10_0 x10_1 x10_2 s) =
    Widths.b14 c9 c10 c11 c12 c13 c14 a0 a1 a2 x10_0 x10_1 x10_2 (fun t => k10 (Widths.mk10 a0 a1 a2 t)) (fun t => k14 (Widths.mk14 a0 a1 a2 x10_0 x10_1 x10_2 t)) s := by kernel_rfl
noncomputable def Widths.l14 (c9 : (List T53) × Bool × Unit → Option (List T41 × List Int × Unit)) (c10 : Int × Int × Int × Unit → Option (Int × Unit)) (c11 : (List T41) × (List Int) × Int × Unit → Option (List Int × Unit)) (c12 : (List T41) × Int × Unit → Option (List Int × Unit)) (c13 : (List Int) × (List Int) × Unit → Option (Bool × Unit)) (c14 : Unit → Option (Bool × Unit)) (fuel : Nat) (a0 : (List T53)) (a1 : Int) (a2 : Int) (x10_0 : Int) (x10_1 : (List Int)) (x10_2 : (List Int)) (k10 : (Int × (List Int) × (List Int)) → Option (Bool × Unit)) (n : Nat) (s : (Bool × Int)) : Option (Bool × Unit) :=
  iterN (fun k14 s => Widths.b14 c9 c10 c11 c12 c13 c14 a0 a1 a2 x10_0 x10_1 x10_2 k10 k14 s) n s
theorem Widths.l14_ev (c9 : (List T53) × Bool × Unit → Option (List T41 × List Int × Unit)) (c10 : Int × Int × Int × Unit → Option (Int × Unit)) (c11 : (List T41) × (List Int) × Int × Unit → Option (List Int × Unit)) (c12 : (List T41) × Int × Unit → Option (List Int × Unit)) (c13 : (List Int) × (List Int) × Unit → Option (Bool × Unit)) (c14 : Unit → Option (Bool × Unit)) (fuel : Nat) (k10 : St → Option (Bool × Unit)) (a0 : (List T53)) (a1 : Int) (a2 : Int) (x10_0 : Int) (x10_1 : (List Int)) (x10_2 : (List Int)) (n : Nat) (s : (Bool × Int)) :
    loopAt (Widths.E c9 c10 c11 c12 c13 c14) fuel 14 (Widths.C10 c9 c10 c11 c12 c13 c14 fuel) (Widths.K10 c9 c10 c11 c12 c13 c14 fuel k10) n (Widths.mk14 a0 a1 a2 x10_0 x10_1 x10_2 s) = Widths.l14 c9 c10 c11 c12 c13 c14 fuel a0 a1 a2 x10_0 x10_1 x10_2 (fun t => k10 (Widths.mk10 a0 a1 a2 t)) n s :=
  loop_iter (fun k14 s => (Widths.b14_ev c9 c10 c11 c12 c13 c14 fuel k10 k14 a0 a1 a2 x10_0 x10_1 x10_2 s)) n s
noncomputable def Widths.b10 (c9 : (List T53) × Bool × Unit → Option (List T41 × List Int × Unit)) (c10 : Int × Int × Int × Unit → Option (Int × Unit)) (c11 : (List T41) × (List Int) × Int × Unit → Option (List Int × Unit)) (c12 : (List T41) × Int × Unit → Option (List Int × Unit)) (c13 : (List Int) × (List Int) × Unit → Option (Bool × Unit)) (c14 : Unit → Option (Bool × Unit)) (a0 : (List T53)) (a1 : Int) (a2 : Int) (i14 : Int → (List Int) → (List Int) → (Bool × Int) → Option (Bool × Unit)) (k10 : (Int × (List Int) × (List Int)) → Option (Bool × Unit)) (s : (Int × (List Int) × (List Int))) : Option (Bool × Unit) :=
  match s with
  | (x10_0, x10_1, x10_2) =>
  bif Decidable.decide (x10_0 < (↑x10_1.length : Int)) then
    i14 x10_0 x10_1 x10_2 (Bool.false, (0 : Int))
  else
    (c14 ()).bind fun r7 =>
    some (r7.fst, PUnit.unit)
theorem Widths.b10_ev (c9 : (List T53) × Bool × Unit → Option (List T41 × List Int × Unit)) (c10 : Int × Int × Int × Unit → Option (Int × Unit)) (c11 : (List T41) × (List Int) × Int × Unit → Option (List Int × Unit)) (c12 : (List T41) × Int × Unit → Option (List Int × Unit)) (c13 : (List Int) × (List Int) × Unit → Option (Bool × Unit)) (c14 : Unit → Option (Bool × Unit)) (fuel : Nat) (k10 : St → Option (Bool × Unit)) (a0 : (List T53)) (a1 : Int) (a2 : Int) (s : (Int × (List Int) × (List Int))) :
    bodyAt (Widths.E c9 c10 c11 c12 c13 c14) fuel 10 Widths.C (endK (Widths.E c9 c10 c11 c12 c13 c14) [.pure ty4] Try.f3) k10 (Widths.mk10 a0 a1 a2 s) =
    Widths.b10 c9 c10 c11 c12 c13 c14 a0 a1 a2 (fun x10_0 x10_1 x10_2 t => loopAt (Widths.E c9 c10 c11 c12 c13 c14) fuel 14 (Widths.C10 c9 c10 c11 c12 c13 c14 fuel) (Widths.K10 c9 c10 c11 c12 c13 c14 fuel k10) fuel (Widths.mk14 a0 a1 a2 x10_0 x10_1 x10_2 t)) (fun t => k10 (Widths.mk10 a0 a1 a2 t)) s := by kernel_rfl
noncomputable def Widths.l10 (c9 : (List T53) × Bool × Unit → Option (List T41 × List Int × Unit)) (c10 : Int × Int × Int × Unit → Option (Int × Unit)) (c11 : (List T41) × (List Int) × Int × Unit → Option (List Int × Unit)) (c12 : (List T41) × Int × Unit → Option (List Int × Unit)) (c13 : (List Int) × (List Int) × Unit → Option (Bool × Unit)) (c14 : Unit → Option (Bool × Unit)) (fuel : Nat) (a0 : (List T53)) (a1 : Int) (a2 : Int) (n : Nat) (s : (Int × (List Int) × (List Int))) : Option (Bool × Unit) :=
  iterN (fun k10 s => Widths.b10 c9 c10 c11 c12 c13 c14 a0 a1 a2 (fun x10_0 x10_1 x10_2 t => Widths.l14 c9 c10 c11 c12 c13 c14 fuel a0 a1 a2 x10_0 x10_1 x10_2 k10 fuel t) k10 s) n s
theorem Widths.l10_ev (c9 : (List T53) × Bool × Unit → Option (List T41 × List Int × Unit)) (c10 : Int × Int × Int × Unit → Option (Int × Unit)) (c11 : (List T41) × (List Int) × Int × Unit → Option (List Int × Unit)) (c12 : (List T41) × Int × Unit → Option (List Int × Unit)) (c13 : (List Int) × (List Int) × Unit → Option (Bool × Unit)) (c14 : Unit → Option (Bool × Unit)) (fuel : Nat) (a0 : (List T53)) (a1 : Int) (a2 : Int) (n : Nat) (s : (Int × (List Int) × (List Int))) :
    loopAt (Widths.E c9 c10 c11 c12 c13 c14) fuel 10 Widths.C (endK (Widths.E c9 c10 c11 c12 c13 c14) [.pure ty4] Try.f3) n (Widths.mk10 a0 a1 a2 s) = Widths.l10 c9 c10 c11 c12 c13 c14 fuel a0 a1 a2 n s :=
  loop_iter (fun k10 s => (Widths.b10_ev c9 c10 c11 c12 c13 c14 fuel k10 a0 a1 a2 s).trans (congrFun (congrFun (congrArg (Widths.b10 c9 c10 c11 c12 c13 c14 a0 a1 a2) (funext fun x10_0 => funext fun x10_1 => funext fun x10_2 => funext fun t => Widths.l14_ev c9 c10 c11 c12 c13 c14 fuel k10 a0 a1 a2 x10_0 x10_1 x10_2 fuel t)) (fun t => k10 (Widths.mk10 a0 a1 a2 t))) s)) n s
noncomputable def Widths.b (c9 : (List T53) × Bool × Unit → Option (List T41 × List Int × Unit)) (c10 : Int × Int × Int × Unit → Option (Int × Unit)) (c11 : (List T41) × (List Int) × Int × Unit → Option (List Int × Unit)) (c12 : (List T41) × Int × Unit → Option (List Int × Unit)) (c13 : (List Int) × (List Int) × Unit → Option (Bool × Unit)) (c14 : Unit → Option (Bool × Unit)) (a0 : (List T53)) (a1 : Int) (a2 : Int) (i10 : (Int × (List Int) × (List Int)) → Option (Bool × Unit)) : Option (Bool × Unit) :=
  (c9 (a0, Bool.true, ())).bind fun r0 =>
  (c10 (a1, (1 : Int), (8 : Int), ())).bind fun r1 =>
  (c10 (a2, (1 : Int), (8 : Int), ())).bind fun r2 =>
  bif Decidable.decide (r1.fst > r2.fst) then
    (c11 (r0.fst, r0.snd.fst, r2.fst, ())).bind fun r8 =>
    (c11 (r0.fst, r0.snd.fst, r1.fst, ())).bind fun r9 =>
    (c12 (r0.fst, (6 : Int), ())).bind fun r10 =>
    bif Decidable.decide ((↑(List.length r8.fst) : Int) > (↑(List.length r9.fst) : Int)) then
      some (Bool.false, PUnit.unit)
    else
      bif Decidable.decide ((0 : Int) ≤ (↑(List.length r8.fst) : Int)) && Decidable.decide ((↑(List.length r8.fst) : Int) ≤ (↑(List.length r9.fst) : Int)) then
        (c13 (r8.fst, List.take ((↑(List.length r8.fst) : Int).toNat - (0 : Nat)) (List.drop (0 : Nat) r9.fst), ())).bind fun r11 =>
        bif !r11.fst then
          some (Bool.false, PUnit.unit)
        else
          bif Decidable.decide ((↑(List.length r8.fst) : Int) < r2.fst) then
            bif (↑(List.length r8.fst) : Int) != (↑(List.length r9.fst) : Int) then
              some (Bool.false, PUnit.unit)
            else
              bif Decidable.decide ((↑(List.length r9.fst) : Int) < r1.fst) then
                bif (↑(List.length r9.fst) : Int) != (↑(List.length r10.fst) : Int) then
                  some (Bool.false, PUnit.unit)
                else
                  i10 ((0 : Int), r9.fst, r10.fst)
              else
                i10 ((0 : Int), r9.fst, r10.fst)
          else
            bif Decidable.decide ((↑(List.length r9.fst) : Int) < r1.fst) then
              bif (↑(List.length r9.fst) : Int) != (↑(List.length r10.fst) : Int) then
                some (Bool.false, PUnit.unit)
              else
                i10 ((0 : Int), r9.fst, r10.fst)
            else
              i10 ((0 : Int), r9.fst, r10.fst)
      else
        none
  else
    (c11 (r0.fst, r0.snd.fst, r1.fst, ())).bind fun r3 =>
    (c11 (r0.fst, r0.snd.fst, r2.fst, ())).bind fun r4 =>
    (c12 (r0.fst, (6 : Int), ())).bind fun r5 =>
    bif Decidable.decide ((↑(List.length r3.fst) : Int) > (↑(List.length r4.fst) : Int)) then
      some (Bool.false, PUnit.unit)
    else
      bif Decidable.decide ((0 : Int) ≤ (↑(List.length r3.fst) : Int)) && Decidable.decide ((↑(List.length r3.fst) : Int) ≤ (↑(List.length r4.fst) : Int)) then
        (c13 (r3.fst, List.take ((↑(List.length r3.fst) : Int).toNat - (0 : Nat)) (List.drop (0 : Nat) r4.fst), ())).bind fun r6 =>
        bif !r6.fst then
          some (Bool.false, PUnit.unit)
        else
          bif Decidable.decide ((↑(List.length r3.fst) : Int) < r1.fst) then
            bif (↑(List.length r3.fst) : Int) != (↑(List.length r4.fst) : Int) then
              some (Bool.false, PUnit.unit)
            else
              bif Decidable.decide ((↑(List.length r4.fst) : Int) < r2.fst) then
                bif (↑(List.length r4.fst) : Int) != (↑(List.length r5.fst) : Int) then
                  some (Bool.false, PUnit.unit)
                else
                  i10 ((0 : Int), r4.fst, r5.fst)
              else
                i10 ((0 : Int), r4.fst, r5.fst)
          else
            bif Decidable.decide ((↑(List.length r4.fst) : Int) < r2.fst) then
              bif (↑(List.length r4.fst) : Int) != (↑(List.length r5.fst) : Int) then
                some (Bool.false, PUnit.unit)
              else
                i10 ((0 : Int), r4.fst, r5.fst)
            else
              i10 ((0 : Int), r4.fst, r5.fst)
      else
        none
theorem Widths.b_ev (c9 : (List T53) × Bool × Unit → Option (List T41 × List Int × Unit)) (c10 : Int × Int × Int × Unit → Option (Int × Unit)) (c11 : (List T41) × (List Int) × Int × Unit → Option (List Int × Unit)) (c12 : (List T41) × Int × Unit → Option (List Int × Unit)) (c13 : (List Int) × (List Int) × Unit → Option (Bool × Unit)) (c14 : Unit → Option (Bool × Unit)) (fuel : Nat) (a0 : (List T53)) (a1 : Int) (a2 : Int) : evalBody (Widths.E c9 c10 c11 c12 c13 c14) fuel Try.f3 Widths.C [ty22, ty2, ty2] [.pure ty4] (a0, a1, a2, ()) =
    Widths.b c9 c10 c11 c12 c13 c14 a0 a1 a2 (fun t => loopAt (Widths.E c9 c10 c11 c12 c13 c14) fuel 10 Widths.C (endK (Widths.E c9 c10 c11 c12 c13 c14) [.pure ty4] Try.f3) fuel (Widths.mk10 a0 a1 a2 t)) := by kernel_rfl
noncomputable def Widths.f (c9 : (List T53) × Bool × Unit → Option (List T41 × List Int × Unit)) (c10 : Int × Int × Int × Unit → Option (Int × Unit)) (c11 : (List T41) × (List Int) × Int × Unit → Option (List Int × Unit)) (c12 : (List T41) × Int × Unit → Option (List Int × Unit)) (c13 : (List Int) × (List Int) × Unit → Option (Bool × Unit)) (c14 : Unit → Option (Bool × Unit)) (fuel : Nat) (a0 : (List T53)) (a1 : Int) (a2 : Int) : Option (Bool × Unit) := Widths.b c9 c10 c11 c12 c13 c14 a0 a1 a2 (fun t => Widths.l10 c9 c10 c11 c12 c13 c14 fuel a0 a1 a2 fuel t)
theorem Widths.ev (c9 : (List T53) × Bool × Unit → Option (List T41 × List Int × Unit)) (c10 : Int × Int × Int × Unit → Option (Int × Unit)) (c11 : (List T41) × (List Int) × Int × Unit → Option (List Int × Unit)) (c12 : (List T41) × Int × Unit → Option (List Int × Unit)) (c13 : (List Int) × (List Int) × Unit → Option (Bool × Unit)) (c14 : Unit → Option (Bool × Unit)) (fuel : Nat) (a0 : (List T53)) (a1 : Int) (a2 : Int) : evalBody (Widths.E c9 c10 c11 c12 c13 c14) fuel Try.f3 Widths.C [ty22, ty2, ty2] [.pure ty4] (a0, a1, a2, ()) = Widths.f c9 c10 c11 c12 c13 c14 fuel a0 a1 a2 :=
  (Widths.b_ev c9 c10 c11 c12 c13 c14 fuel a0 a1 a2).trans (congrArg (Widths.b c9 c10 c11 c12 c13 c14 a0 a1 a2) (funext fun t => Widths.l10_ev c9 c10 c11 c12 c13 c14 fuel a0 a1 a2 fuel t))

/-! ### Alone -/
noncomputable def Alone.E (c9 : (List T53) × Bool × Unit → Option (List T41 × List Int × Unit)) (c10 : Int × Int × Int × Unit → Option (Int × Unit)) (c16 : (List T41) × (List Int) × Int × Unit → Option (List T44 × Unit)) (c15 : (List T44) × (List T44) × Unit → Option (Bool × Unit)) (c11 : (List T41) × (List Int) × Int × Unit → Option (List Int × Unit)) (c13 : (List Int) × (List Int) × Unit → Option (Bool × Unit)) (c14 : Unit → Option (Bool × Unit)) : Env := envOf Try.prog (pick [(9, ⟨[ty22, ty4], [.fresh ty41, .fresh ty2], c9⟩), (10, ⟨[ty2, ty2, ty2], [.pure ty2], c10⟩), (16, ⟨[ty23, ty24, ty2], [.fresh ty44], c16⟩), (15, ⟨[ty46, ty46], [.pure ty4], c15⟩), (11, ⟨[ty23, ty24, ty2], [.fresh ty2], c11⟩), (13, ⟨[ty24, ty24], [.pure ty4], c13⟩), (14, ⟨[], [.pure ty4], c14⟩)]) (pick []) (pick [(6, [(7, none), (8, none), (9, none), (10, none), (11, none), (12, none)])])
noncomputable def Alone.C : Code := Try.f4.body.getD .skip
noncomputable def Alone.mk6 (a0 : (List T53)) (a1 : Int) (a2 : Int) (s : (Int × Int × Int × Int × Int × Int × Bool × Int × Int × Bool × Int × Bool × Int × Bool × Nat × (List T41) × (List Int))) : St := { tmps := slots 77 0 [(7, (.one (.ref 0 0 0 0))), (8, (.one (.own 1))), (9, (.one (.own 2))), (10, (.one (.pure ty2 s.1))), (11, (.one (.pure ty2 s.2.1))), (12, (.one (.pure ty2 s.2.2.1)))], st := [(0, (.cells [(.pure ty2 s.2.2.2.1), (.pure ty33 s.2.2.2.2.1), (.pure ty33 s.2.2.2.2.2.1), (.pure ty4 s.2.2.2.2.2.2.1), (.pure ty2 s.2.2.2.2.2.2.2.1), .nil, (.pure ty33 s.2.2.2.2.2.2.2.2.1), (.pure ty4 s.2.2.2.2.2.2.2.2.2.1), (.pure ty33 s.2.2.2.2.2.2.2.2.2.2.1), (.pure ty4 s.2.2.2.2.2.2.2.2.2.2.2.1), (.pure ty33 s.2.2.2.2.2.2.2.2.2.2.2.2.1), (.pure ty4 s.2.2.2.2.2.2.2.2.2.2.2.2.2.1), .nil, (.pure ty40 s.2.2.2.2.2.2.2.2.2.2.2.2.2.2.1)])), (1, (.row ty41 s.2.2.2.2.2.2.2.2.2.2.2.2.2.2.2.1)), (2, (.row ty2 s.2.2.2.2.2.2.2.2.2.2.2.2.2.2.2.2))], next := 3 }
noncomputable def Alone.b6 (c9 : (List T53) × Bool × Unit → Option (List T41 × List Int × Unit)) (c10 : Int × Int × Int × Unit → Option (Int × Unit)) (c16 : (List T41) × (List Int) × Int × Unit → Option (List T44 × Unit)) (c15 : (List T44) × (List T44) × Unit → Option (Bool × Unit)) (c11 : (List T41) × (List Int) × Int × Unit → Option (List Int × Unit)) (c13 : (List Int) × (List Int) × Unit → Option (Bool × Unit)) (c14 : Unit → Option (Bool × Unit)) (a0 : (List T53)) (a1 : Int) (a2 : Int) (k6 : (Int × Int × Int × Int × Int × Int × Bool × Int × Int × Bool × Int × Bool × Int × Bool × Nat × (List T41) × (List Int)) → Option (Bool × Unit)) (s : (Int × Int × Int × Int × Int × Int × Bool × Int × Int × Bool × Int × Bool × Int × Bool × Nat × (List T41) × (List Int))) : Option (Bool × Unit) :=
  match s with
  | (x6_0, x6_1, x6_2, x6_3, x6_4, x6_5, x6_6, x6_7, x6_8, x6_9, x6_10, x6_11, x6_12, x6_13, x6_14, x6_15, x6_16) =>
  bif Decidable.decide (x6_2 ≤ (↑x6_15.length : Int)) then
    bif Decidable.decide ((0 : Int) ≤ x6_2) && Decidable.decide (x6_2 ≤ (↑x6_15.length : Int)) then
      bif Decidable.decide (((0 : Nat) + (List.take (x6_2.toNat - (0 : Nat)) (List.drop (0 : Nat) x6_15)).length) * (112 : Nat) ≤ Go.Ev.maxBytes) then
        bif Decidable.decide ((([] ++ List.take (x6_2.toNat - (0 : Nat)) (List.drop (0 : Nat) x6_15)).length + (1 : Nat)) * (112 : Nat) ≤ Go.Ev.maxBytes) then
          bif Decidable.decide ((0 : Int) ≤ x6_2) && Decidable.decide (x6_2 ≤ (↑x6_15.length : Int)) && Decidable.decide ((↑x6_15.length : Int) ≤ (↑x6_15.length : Int)) then
            bif Decidable.decide ((([] ++ List.take (x6_2.toNat - (0 : Nat)) (List.drop (0 : Nat) x6_15) ++ [((x6_3, x6_4, x6_5, x6_6, x6_7, [], x6_8, x6_9, x6_10, x6_11, x6_12, x6_13, []), x6_14)]).length + (List.take ((↑x6_15.length : Int).toNat - x6_2.toNat) (List.drop x6_2.toNat x6_15)).length) * (112 : Nat) ≤ Go.Ev.maxBytes) then
              bif Decidable.decide ((0 : Int) ≤ x6_2) && Decidable.decide (x6_2 ≤ (↑x6_16.length : Int)) then
                bif Decidable.decide (((0 : Nat) + (List.take (x6_2.toNat - (0 : Nat)) (List.drop (0 : Nat) x6_16)).length) * (8 : Nat) ≤ Go.Ev.maxBytes) then
                  bif Decidable.decide ((([] ++ List.take (x6_2.toNat - (0 : Nat)) (List.drop (0 : Nat) x6_16)).length + (1 : Nat)) * (8 : Nat) ≤ Go.Ev.maxBytes) then
                    bif Decidable.decide ((0 : Int) ≤ x6_2) && Decidable.decide (x6_2 ≤ (↑x6_16.length : Int)) && Decidable.decide ((↑x6_16.length : Int) ≤ (↑x6_16.length : Int)) then
                      bif Decidable.decide ((([] ++ List.take (x6_2.toNat - (0 : Nat)) (List.drop (0 : Nat) x6_16) ++ [x6_0]).length + (List.take ((↑x6_16.length : Int).toNat - x6_2.toNat) (List.drop x6_2.toNat x6_16)).length) * (8 : Nat) ≤ Go.Ev.maxBytes) then
                        (c16 ([] ++ List.take (x6_2.toNat - (0 : Nat)) (List.drop (0 : Nat) x6_15) ++ [((x6_3, x6_4, x6_5, x6_6, x6_7, [], x6_8, x6_9, x6_10, x6_11, x6_12, x6_13, []), x6_14)] ++ List.take ((↑x6_15.length : Int).toNat - x6_2.toNat) (List.drop x6_2.toNat x6_15), [] ++ List.take (x6_2.toNat - (0 : Nat)) (List.drop (0 : Nat) x6_16) ++ [x6_0] ++ List.take ((↑x6_16.length : Int).toNat - x6_2.toNat) (List.drop x6_2.toNat x6_16), x6_1, ())).bind fun r4 =>
                        (c15 (r4.fst, [(x6_0, (16 : Int))], ())).bind fun r5 =>
                        bif !r5.fst then
                          some (Bool.false, PUnit.unit)
                        else
                          (c11 ([] ++ List.take (x6_2.toNat - (0 : Nat)) (List.drop (0 : Nat) x6_15) ++ [((x6_3, x6_4, x6_5, x6_6, x6_7, [], x6_8, x6_9, x6_10, x6_11, x6_12, x6_13, []), x6_14)] ++ List.take ((↑x6_15.length : Int).toNat - x6_2.toNat) (List.drop x6_2.toNat x6_15), [] ++ List.take (x6_2.toNat - (0 : Nat)) (List.drop (0 : Nat) x6_16) ++ [x6_0] ++ List.take ((↑x6_16.length : Int).toNat - x6_2.toNat) (List.drop x6_2.toNat x6_16), x6_1, ())).bind fun r6 =>
                          (c13 (r6.fst, [x6_2], ())).bind fun r7 =>
                          bif !r7.fst then
                            some (Bool.false, PUnit.unit)
                          else
                            k6 (x6_0, x6_1, Go.IntKind.i64.wrap (x6_2 + (1 : Int)), x6_3, x6_4, x6_5, x6_6, x6_7, x6_8, x6_9, x6_10, x6_11, x6_12, x6_13, x6_14, x6_15, x6_16)
                      else
                        none
                    else
                      none
                  else
                    none
                else
                  none
              else
                none
            else
              none
          else
            none
        else
          none
      else
        none
    else
      none
  else
    (c14 ()).bind fun r3 =>
    some (r3.fst, PUnit.unit)
theorem Alone.b6_ev (c9 : (List T53) × Bool × Unit → Option (List T41 × List Int × Unit)) (c10 : Int × Int × Int × Unit → Option (Int × Unit)) (c16 : (List T41) × (List Int) × Int × Unit → Option (List T44 × Unit)) (c15 : (List T44) × (List T44) × Unit → Option (Bool × Unit)) (c11 : (List T41) × (List Int) × Int × Unit → Option (List Int × Unit)) (c13 : (List Int) × (List Int) × Unit → Option (Bool × Unit)) (c14 : Unit → Option (Bool × Unit)) (fuel : Nat) (k6 : St → Option (Bool × Unit)) (a0 : (List T53)) (a1 : Int) (a2 : Int) (s : (Int × Int × Int × Int × Int × Int × Bool × Int × Int × Bool × Int × Bool × Int × Bool × Nat × (List T41) × (List Int))) :
    bodyAt (Alone.E c9 c10 c16 c15 c11 c13 c14) fuel 6 Alone.C (endK (Alone.E c9 c10 c16 c15 c11 c13 c14) [.pure ty4] Try.f4) k6 (Alone.mk6 a0 a1 a2 s) =
    Alone.b6 c9 c10 c16 c15 c11 c13 c14 a0 a1 a2 (fun t => k6 (Alone.mk6 a0 a1 a2 t)) s := by kernel_rfl
noncomputable def Alone.l6 (c9 : (List T53) × Bool × Unit → Option (List T41 × List Int × Unit)) (c10 : Int × Int × Int × Unit → Option (Int × Unit)) (c16 : (List T41) × (List Int) × Int × Unit → Option (List T44 × Unit)) (c15 : (List T44) × (List T44) × Unit → Option (Bool × Unit)) (c11 : (List T41) × (List Int) × Int × Unit → Option (List Int × Unit)) (c13 : (List Int) × (List Int) × Unit → Option (Bool × Unit)) (c14 : Unit → Option (Bool × Unit)) (fuel : Nat) (a0 : (List T53)) (a1 : Int) (a2 : Int) (n : Nat) (s : (Int × Int × Int × Int × Int × Int × Bool × Int × Int × Bool × Int × Bool × Int × Bool × Nat × (List T41) × (List Int))) : Option (Bool × Unit) :=
  iterN (fun k6 s => Alone.b6 c9 c10 c16 c15 c11 c13 c14 a0 a1 a2 k6 s) n s
theorem Alone.l6_ev (c9 : (List T53) × Bool × Unit → Option (List T41 × List Int × Unit)) (c10 : Int × Int × Int × Unit → Option (Int × Unit)) (c16 : (List T41) × (List Int) × Int × Unit → Option (List T44 × Unit)) (c15 : (List T44) × (List T44) × Unit → Option (Bool × Unit)) (c11 : (List T41) × (List Int) × Int × Unit → Option (List Int × Unit)) (c13 : (List Int) × (List Int) × Unit → Option (Bool × Unit)) (c14 : Unit → Option (Bool × Unit)) (fuel : Nat) (a0 : (List T53)) (a1 : Int) (a2 : Int) (n : Nat) (s : (Int × Int × Int × Int × Int × Int × Bool × Int × Int × Bool × Int × Bool × Int × Bool × Nat × (List T41) × (List Int))) :
    loopAt (Alone.E c9 c10 c16 c15 c11 c13 c14) fuel 6 Alone.C (endK (Alone.E c9 c10 c16 c15 c11 c13 c14) [.pure ty4] Try.f4) n (Alone.mk6 a0 a1 a2 s) = Alone.l6 c9 c10 c16 c15 c11 c13 c14 fuel a0 a1 a2 n s :=
  loop_iter (fun k6 s => (Alone.b6_ev c9 c10 c16 c15 c11 c13 c14 fuel k6 a0 a1 a2 s)) n s
noncomputable def Alone.b (c9 : (List T53) × Bool × Unit → Option (List T41 × List Int × Unit)) (c10 : Int × Int × Int × Unit → Option (Int × Unit)) (c16 : (List T41) × (List Int) × Int × Unit → Option (List T44 × Unit)) (c15 : (List T44) × (List T44) × Unit → Option (Bool × Unit)) (c11 : (List T41) × (List Int) × Int × Unit → Option (List Int × Unit)) (c13 : (List Int) × (List Int) × Unit → Option (Bool × Unit)) (c14 : Unit → Option (Bool × Unit)) (a0 : (List T53)) (a1 : Int) (a2 : Int) (i6 : (Int × Int × Int × Int × Int × Int × Bool × Int × Int × Bool × Int × Bool × Int × Bool × Nat × (List T41) × (List Int)) → Option (Bool × Unit)) : Option (Bool × Unit) :=
  (c9 (a0, Bool.true, ())).bind fun r0 =>
  (c10 (a1, (0 : Int), (255 : Int), ())).bind fun r1 =>
  (c10 (a2, (1 : Int), (8 : Int), ())).bind fun r2 =>
  i6 (r1.fst, r2.fst, (0 : Int), (0 : Int), (77 : Int), (0 : Int), Bool.false, (0 : Int), (0 : Int), Bool.false, (0 : Int), Bool.true, (1073741824 : Int), Bool.false, (0 : Nat), r0.fst, r0.snd.fst)
theorem Alone.b_ev (c9 : (List T53) × Bool × Unit → Option (List T41 × List Int × Unit)) (c10 : Int × Int × Int × Unit → Option (Int × Unit)) (c16 : (List T41) × (List Int) × Int × Unit → Option (List T44 × Unit)) (c15 : (List T44) × (List T44) × Unit → Option (Bool × Unit)) (c11 : (List T41) × (List Int) × Int × Unit → Option (List Int × Unit)) (c13 : (List Int) × (List Int) × Unit → Option (Bool × Unit)) (c14 : Unit → Option (Bool × Unit)) (fuel : Nat) (a0 : (List T53)) (a1 : Int) (a2 : Int) : evalBody (Alone.E c9 c10 c16 c15 c11 c13 c14) fuel Try.f4 Alone.C [ty22, ty2, ty2] [.pure ty4] (a0, a1, a2, ()) =
    Alone.b c9 c10 c16 c15 c11 c13 c14 a0 a1 a2 (fun t => loopAt (Alone.E c9 c10 c16 c15 c11 c13 c14) fuel 6 Alone.C (endK (Alone.E c9 c10 c16 c15 c11 c13 c14) [.pure ty4] Try.f4) fuel (Alone.mk6 a0 a1 a2 t)) := by kernel_rfl
noncomputable def Alone.f (c9 : (List T53) × Bool × Unit → Option (List T41 × List Int × Unit)) (c10 : Int × Int × Int × Unit → Option (Int × Unit)) (c16 : (List T41) × (List Int) × Int × Unit → Option (List T44 × Unit)) (c15 : (List T44) × (List T44) × Unit → Option (Bool × Unit)) (c11 : (List T41) × (List Int) × Int × Unit → Option (List Int × Unit)) (c13 : (List Int) × (List Int) × Unit → Option (Bool × Unit)) (c14 : Unit → Option (Bool × Unit)) (fuel : Nat) (a0 : (List T53)) (a1 : Int) (a2 : Int) : Option (Bool × Unit) := Alone.b c9 c10 c16 c15 c11 c13 c14 a0 a1 a2 (fun t => Alone.l6 c9 c10 c16 c15 c11 c13 c14 fuel a0 a1 a2 fuel t)
theorem Alone.ev (c9 : (List T53) × Bool × Unit → Option (List T41 × List Int × Unit)) (c10 : Int × Int × Int × Unit → Option (Int × Unit)) (c16 : (List T41) × (List Int) × Int × Unit → Option (List T44 × Unit)) (c15 : (List T44) × (List T44) × Unit → Option (Bool × Unit)) (c11 : (List T41) × (List Int) × Int × Unit → Option (List Int × Unit)) (c13 : (List Int) × (List Int) × Unit → Option (Bool × Unit)) (c14 : Unit → Option (Bool × Unit)) (fuel : Nat) (a0 : (List T53)) (a1 : Int) (a2 : Int) : evalBody (Alone.E c9 c10 c16 c15 c11 c13 c14) fuel Try.f4 Alone.C [ty22, ty2, ty2] [.pure ty4] (a0, a1, a2, ()) = Alone.f c9 c10 c16 c15 c11 c13 c14 fuel a0 a1 a2 :=
  (Alone.b_ev c9 c10 c16 c15 c11 c13 c14 fuel a0 a1 a2).trans (congrArg (Alone.b c9 c10 c16 c15 c11 c13 c14 a0 a1 a2) (funext fun t => Alone.l6_ev c9 c10 c16 c15 c11 c13 c14 fuel a0 a1 a2 fuel t))

/-! ### Order -/
noncomputable def Order.E (c9 : (List T53) × Bool × Unit → Option (List T41 × List Int × Unit)) (c14 : Unit → Option (Bool × Unit)) (c10 : Int × Int × Int × Unit → Option (Int × Unit)) (c16 : (List T41) × (List Int) × Int × Unit → Option (List T44 × Unit)) (c15 : (List T44) × (List T44) × Unit → Option (Bool × Unit)) : Env := envOf Try.prog (pick [(9, ⟨[ty22, ty4], [.fresh ty41, .fresh ty2], c9⟩), (14, ⟨[], [.pure ty4], c14⟩), (10, ⟨[ty2, ty2, ty2], [.pure ty2], c10⟩), (16, ⟨[ty23, ty24, ty2], [.fresh ty44], c16⟩), (15, ⟨[ty46, ty46], [.pure ty4], c15⟩)]) (pick []) (pick [(3, [(1, none), (2, none), (7, none), (8, none), (9, none)])])
noncomputable def Order.C : Code := Try.f5.body.getD .skip
noncomputable def Order.mk3 (a0 : (List T53)) (a1 : Int) (a2 : Int) (s : (Int × (List T41) × (List Int))) : St := { tmps := slots 74 0 [(1, (.one (.pure ty2 a1))), (2, (.one (.pure ty2 a2))), (7, (.one (.own 0))), (8, (.one (.own 1))), (9, (.one (.pure ty2 s.1)))], st := [(0, (.row ty41 s.2.1)), (1, (.row ty2 s.2.2))], next := 2 }
noncomputable def Order.b3 (c9 : (List T53) × Bool × Unit → Option (List T41 × List Int × Unit)) (c14 : Unit → Option (Bool × Unit)) (c10 : Int × Int × Int × Unit → Option (Int × Unit)) (c16 : (List T41) × (List Int) × Int × Unit → Option (List T44 × Unit)) (c15 : (List T44) × (List T44) × Unit → Option (Bool × Unit)) (a0 : (List T53)) (a1 : Int) (a2 : Int) (k3 : (Int × (List T41) × (List Int)) → Option (Bool × Unit)) (s : (Int × (List T41) × (List Int))) : Option (Bool × Unit) :=
  match s with
  | (x3_2, x3_3, x3_4) =>
  bif Decidable.decide (x3_2 < (↑x3_3.length : Int)) then
    bif Decidable.decide ((0 : Int) ≤ x3_2) && Decidable.decide (x3_2 < (↑x3_3.length : Int)) then
      k3 (Go.IntKind.i64.wrap (x3_2 + (1 : Int)), x3_3.set x3_2.toNat (((x3_3.getD x3_2.toNat BE.ty41.dflt).fst.fst, Go.IntKind.u32.wrap (Go.IntKind.i64.wrap ((100 : Int) - x3_2)), (x3_3.getD x3_2.toNat BE.ty41.dflt).fst.snd.snd), (x3_3.getD x3_2.toNat BE.ty41.dflt).snd), x3_4)
    else
      none
  else
    bif (↑x3_3.length : Int) == (0 : Int) then
      (c14 ()).bind fun r7 =>
      some (r7.fst, PUnit.unit)
    else
      (c10 (a1, (0 : Int), Go.IntKind.i64.wrap ((↑x3_3.length : Int) - (1 : Int)), ())).bind fun r1 =>
      bif Decidable.decide ((0 : Int) ≤ r1.fst) && Decidable.decide (r1.fst ≤ (↑x3_3.length : Int)) && Decidable.decide ((↑x3_3.length : Int) ≤ (↑x3_3.length : Int)) then
        bif Decidable.decide (((0 : Nat) + (List.take ((↑x3_3.length : Int).toNat - Int.toNat r1.fst) (List.drop (Int.toNat r1.fst) x3_3)).length) * (112 : Nat) ≤ Go.Ev.maxBytes) then
          bif Decidable.decide ((0 : Int) ≤ r1.fst) && Decidable.decide (r1.fst ≤ (↑x3_3.length : Int)) then
            bif Decidable.decide ((([] ++ List.take ((↑x3_3.length : Int).toNat - Int.toNat r1.fst) (List.drop (Int.toNat r1.fst) x3_3)).length + (List.take (Int.toNat r1.fst - (0 : Nat)) (List.drop (0 : Nat) x3_3)).length) * (112 : Nat) ≤ Go.Ev.maxBytes) then
              bif Decidable.decide ((0 : Int) ≤ r1.fst) && Decidable.decide (r1.fst ≤ (↑x3_4.length : Int)) && Decidable.decide ((↑x3_4.length : Int) ≤ (↑x3_4.length : Int)) then
                bif Decidable.decide (((0 : Nat) + (List.take ((↑x3_4.length : Int).toNat - Int.toNat r1.fst) (List.drop (Int.toNat r1.fst) x3_4)).length) * (8 : Nat) ≤ Go.Ev.maxBytes) then
                  bif Decidable.decide ((0 : Int) ≤ r1.fst) && Decidable.decide (r1.fst ≤ (↑x3_4.length : Int)) then
                    bif Decidable.decide ((([] ++ List.take ((↑x3_4.length : Int).toNat - Int.toNat r1.fst) (List.drop (Int.toNat r1.fst) x3_4)).length + (List.take (Int.toNat r1.fst - (0 : Nat)) (List.drop (0 : Nat) x3_4)).length) * (8 : Nat) ≤ Go.Ev.maxBytes) then
                      (c10 (a2, (1 : Int), (8 : Int), ())).bind fun r2 =>
                      (c16 (x3_3, x3_4, r2.fst, ())).bind fun r3 =>
                      (c16 ([] ++ List.take ((↑x3_3.length : Int).toNat - Int.toNat r1.fst) (List.drop (Int.toNat r1.fst) x3_3) ++ List.take (Int.toNat r1.fst - (0 : Nat)) (List.drop (0 : Nat) x3_3), [] ++ List.take ((↑x3_4.length : Int).toNat - Int.toNat r1.fst) (List.drop (Int.toNat r1.fst) x3_4) ++ List.take (Int.toNat r1.fst - (0 : Nat)) (List.drop (0 : Nat) x3_4), r2.fst, ())).bind fun r4 =>
                      (c15 (r3.fst, r4.fst, ())).bind fun r5 =>
                      bif r5.fst then
                        (c14 ()).bind fun r6 =>
                        some (r6.fst, PUnit.unit)
                      else
                        some (Bool.false, PUnit.unit)
                    else
                      none
                  else
                    none
                else
                  none
              else
                none
            else
              none
          else
            none
        else
          none
      else
        none
theorem Order.b3_ev (c9 : (List T53) × Bool × Unit → Option (List T41 × List Int × Unit)) (c14 : Unit → Option (Bool × Unit)) (c10 : Int × Int × Int × Unit → Option (Int × Unit)) (c16 : (List T41) × (List Int) × Int × Unit → Option (List T44 × Unit)) (c15 : (List T44) × (List T44) × Unit → Option (Bool × Unit)) (fuel : Nat) (k3 : St → Option (Bool × Unit)) (a0 : (List T53)) (a1 : Int) (a2 : Int) (s : (Int × (List T41) × (List Int))) :
    bodyAt (Order.E c9 c14 c10 c16 c15) fuel 3 Order.C (endK (Order.E c9 c14 c10 c16 c15) [.pure ty4] Try.f5) k3 (Order.mk3 a0 a1 a2 s) =
    Order.b3 c9 c14 c10 c16 c15 a0 a1 a2 (fun t => k3 (Order.mk3 a0 a1 a2 t)) s := by kernel_rfl
noncomputable def Order.l3 (c9 : (List T53) × Bool × Unit → Option (List T41 × List Int × Unit)) (c14 : Unit → Option (Bool × Unit)) (c10 : Int × Int × Int × Unit → Option (Int × Unit)) (c16 : (List T41) × (List Int) × Int × Unit → Option (List T44 × Unit)) (c15 : (List T44) × (List T44) × Unit → Option (Bool × Unit)) (fuel : Nat) (a0 : (List T53)) (a1 : Int) (a2 : Int) (n : Nat) (s : (Int × (List T41) × (List Int))) : Option (Bool × Unit) :=
  iterN (fun k3 s => Order.b3 c9 c14 c10 c16 c15 a0 a1 a2 k3 s) n s
theorem Order.l3_ev (c9 : (List T53) × Bool × Unit → Option (List T41 × List Int × Unit)) (c14 : Unit → Option (Bool × Unit)) (c10 : Int × Int × Int × Unit → Option (Int × Unit)) (c16 : (List T41) × (List Int) × Int × Unit → Option (List T44 × Unit)) (c15 : (List T44) × (List T44) × Unit → Option (Bool × Unit)) (fuel : Nat) (a0 : (List T53)) (a1 : Int) (a2 : Int) (n : Nat) (s : (Int × (List T41) × (List Int))) :
    loopAt (Order.E c9 c14 c10 c16 c15) fuel 3 Order.C (endK (Order.E c9 c14 c10 c16 c15) [.pure ty4] Try.f5) n (Order.mk3 a0 a1 a2 s) = Order.l3 c9 c14 c10 c16 c15 fuel a0 a1 a2 n s :=
  loop_iter (fun k3 s => (Order.b3_ev c9 c14 c10 c16 c15 fuel k3 a0 a1 a2 s)) n s
noncomputable def Order.b (c9 : (List T53) × Bool × Unit → Option (List T41 × List Int × Unit)) (c14 : Unit → Option (Bool × Unit)) (c10 : Int × Int × Int × Unit → Option (Int × Unit)) (c16 : (List T41) × (List Int) × Int × Unit → Option (List T44 × Unit)) (c15 : (List T44) × (List T44) × Unit → Option (Bool × Unit)) (a0 : (List T53)) (a1 : Int) (a2 : Int) (i3 : (Int × (List T41) × (List Int)) → Option (Bool × Unit)) : Option (Bool × Unit) :=
  (c9 (a0, Bool.true, ())).bind fun r0 =>
  i3 ((0 : Int), r0.fst, r0.snd.fst)
theorem Order.b_ev (c9 : (List T53) × Bool × Unit → Option (List T41 × List Int × Unit)) (c14 : Unit → Option (Bool × Unit)) (c10 : Int × Int × Int × Unit → Option (Int × Unit)) (c16 : (List T41) × (List Int) × Int × Unit → Option (List T44 × Unit)) (c15 : (List T44) × (List T44) × Unit → Option (Bool × Unit)) (fuel : Nat) (a0 : (List T53)) (a1 : Int) (a2 : Int) : evalBody (Order.E c9 c14 c10 c16 c15) fuel Try.f5 Order.C [ty22, ty2, ty2] [.pure ty4] (a0, a1, a2, ()) =
    Order.b c9 c14 c10 c16 c15 a0 a1 a2 (fun t => loopAt (Order.E c9 c14 c10 c16 c15) fuel 3 Order.C (endK (Order.E c9 c14 c10 c16 c15) [.pure ty4] Try.f5) fuel (Order.mk3 a0 a1 a2 t)) := by kernel_rfl
noncomputable def Order.f (c9 : (List T53) × Bool × Unit → Option (List T41 × List Int × Unit)) (c14 : Unit → Option (Bool × Unit)) (c10 : Int × Int × Int × Unit → Option (Int × Unit)) (c16 : (List T41) × (List Int) × Int × Unit → Option (List T44 × Unit)) (c15 : (List T44) × (List T44) × Unit → Option (Bool × Unit)) (fuel : Nat) (a0 : (List T53)) (a1 : Int) (a2 : Int) : Option (Bool × Unit) := Order.b c9 c14 c10 c16 c15 a0 a1 a2 (fun t => Order.l3 c9 c14 c10 c16 c15 fuel a0 a1 a2 fuel t)
theorem Order.ev (c9 : (List T53) × Bool × Unit → Option (List T41 × List Int × Unit)) (c14 : Unit → Option (Bool × Unit)) (c10 : Int × Int × Int × Unit → Option (Int × Unit)) (c16 : (List T41) × (List Int) × Int × Unit → Option (List T44 × Unit)) (c15 : (List T44) × (List T44) × Unit → Option (Bool × Unit)) (fuel : Nat) (a0 : (List T53)) (a1 : Int) (a2 : Int) : evalBody (Order.E c9 c14 c10 c16 c15) fuel Try.f5 Order.C [ty22, ty2, ty2] [.pure ty4] (a0, a1, a2, ()) = Order.f c9 c14 c10 c16 c15 fuel a0 a1 a2 :=
  (Order.b_ev c9 c14 c10 c16 c15 fuel a0 a1 a2).trans (congrArg (Order.b c9 c14 c10 c16 c15 a0 a1 a2) (funext fun t => Order.l3_ev c9 c14 c10 c16 c15 fuel a0 a1 a2 fuel t))

/-! ### Rules -/
noncomputable def Rules.E (c9 : (List T53) × Bool × Unit → Option (List T41 × List Int × Unit)) (c10 : Int × Int × Int × Unit → Option (Int × Unit)) (c11 : (List T41) × (List Int) × Int × Unit → Option (List Int × Unit)) (c16 : (List T41) × (List Int) × Int × Unit → Option (List T44 × Unit)) (c17 : (List T41) × Unit → Option (Int × Bool × Unit)) (c14 : Unit → Option (Bool × Unit)) : Env := envOf Try.prog (pick [(9, ⟨[ty22, ty4], [.fresh ty41, .fresh ty2], c9⟩), (10, ⟨[ty2, ty2, ty2], [.pure ty2], c10⟩), (11, ⟨[ty23, ty24, ty2], [.fresh ty2], c11⟩), (16, ⟨[ty23, ty24, ty2], [.fresh ty44], c16⟩), (17, ⟨[ty23], [.pure ty2, .pure ty4], c17⟩), (14, ⟨[], [.pure ty4], c14⟩)]) (pick []) (pick [(12, [(5, none), (6, none), (8, none), (9, none), (12, none), (13, none)]), (16, [(5, none), (6, none), (8, none), (9, none), (12, none), (13, none), (14, none), (15, none)])])
noncomputable def Rules.C : Code := Try.f6.body.getD .skip
noncomputable def Rules.mk12 (a0 : (List T53)) (a1 : Int) (s : (Int × Int × (List T41) × (List Int) × (List Int) × (List T44))) : St := { tmps := slots 158 0 [(5, (.one (.own 0))), (6, (.one (.own 1))), (8, (.one (.own 2))), (9, (.one (.own 3))), (12, (.one (.pure ty2 s.1))), (13, (.one (.pure ty2 s.2.1)))], st := [(0, (.row ty41 s.2.2.1)), (1, (.row ty2 s.2.2.2.1)), (2, (.row ty2 s.2.2.2.2.1)), (3, (.row ty44 s.2.2.2.2.2))], next := 4 }
noncomputable def Rules.mk16 (a0 : (List T53)) (a1 : Int) (x12_0 : Int) (x12_1 : Int) (x12_2 : (List T41)) (x12_3 : (List Int)) (x12_4 : (List Int)) (x12_5 : (List T44)) (s : (Int × Int)) : St := { tmps := slots 158 0 [(5, (.one (.own 0))), (6, (.one (.own 1))), (8, (.one (.own 2))), (9, (.one (.own 3))), (12, (.one (.pure ty2 x12_0))), (13, (.one (.pure ty2 x12_1))), (14, (.one (.pure ty2 s.1))), (15, (.one (.pure ty2 s.2)))], st := [(0, (.row ty41 x12_2)), (1, (.row ty2 x12_3)), (2, (.row ty2 x12_4)), (3, (.row ty44 x12_5))], next := 4 }
noncomputable def Rules.C12 (c9 : (List T53) × Bool × Unit → Option (List T41 × List Int × Unit)) (c10 : Int × Int × Int × Unit → Option (Int × Unit)) (c11 : (List T41) × (List Int) × Int × Unit → Option (List Int × Unit)) (c16 : (List T41) × (List Int) × Int × Unit → Option (List T44 × Unit)) (c17 : (List T41) × Unit → Option (Int × Bool × Unit)) (c14 : Unit → Option (Bool × Unit)) (fuel : Nat) : Code := codeAt (Rules.E c9 c10 c11 c16 c17 c14) fuel 12 Rules.C
noncomputable def Rules.K12 (c9 : (List T53) × Bool × Unit → Option (List T41 × List Int × Unit)) (c10 : Int × Int × Int × Unit → Option (Int × Unit)) (c11 : (List T41) × (List Int) × Int × Unit → Option (List Int × Unit)) (c16 : (List T41) × (List Int) × Int × Unit → Option (List T44 × Unit)) (c17 : (List T41) × Unit → Option (Int × Bool × Unit)) (c14 : Unit → Option (Bool × Unit)) (fuel : Nat) (k12 : St → Option (Bool × Unit)) : Ex → St → Option (Bool × Unit) := contAt (Rules.E c9 c10 c11 c16 c17 c14) fuel 12 Rules.C (endK (Rules.E c9 c10 c11 c16 c17 c14) [.pure ty4] Try.f6) k12
noncomputable def Rules.b16 (c9 : (List T53) × Bool × Unit → Option (List T41 × List Int × Unit)) (c10 : Int × Int × Int × Unit → Option (Int × Unit)) (c11 : (List T41) × (List Int) × Int × Unit → Option (List Int × Unit)) (c16 : (List T41) × (List Int) × Int × Unit → Option (List T44 × Unit)) (c17 : (List T41) × Unit → Option (Int × Bool × Unit)) (c14 : Unit → Option (Bool × Unit)) (a0 : (List T53)) (a1 : Int) (x12_0 : Int) (x12_1 : Int) (x12_2 : (List T41)) (x12_3 : (List Int)) (x12_4 : (List Int)) (x12_5 : (List T44)) (k12 : (Int × Int × (List T41) × (List Int) × (List Int) × (List T44)) → Option (Bool × Unit)) (k16 : (Int × Int) → Option (Bool × Unit)) (s : (Int × Int)) : Option (Bool × Unit) :=
  match s with
  | (x16_2, x16_3) =>
  bif Decidable.decide (x16_3 < (↑x12_4.length : Int)) then
    bif Decidable.decide ((0 : Int) ≤ x16_3) && Decidable.decide (x16_3 < (↑x12_4.length : Int)) then
      bif Decidable.decide ((0 : Int) ≤ x12_4.getD x16_3.toNat (0 : Int)) && Decidable.decide (x12_4.getD x16_3.toNat (0 : Int) < (↑x12_3.length : Int)) then
        bif Decidable.decide ((0 : Int) ≤ x12_1) && Decidable.decide (x12_1 < (↑x12_5.length : Int)) then
          bif x12_3.getD (Int.toNat (x12_4.getD x16_3.toNat (0 : Int))) (0 : Int) == (x12_5.getD x12_1.toNat BE.ty44.dflt).fst then
            k16 (Go.IntKind.i64.wrap (x16_2 + (1 : Int)), Go.IntKind.i64.wrap (x16_3 + (1 : Int)))
          else
            k16 (x16_2, Go.IntKind.i64.wrap (x16_3 + (1 : Int)))
        else
          none
      else
        none
    else
      none
  else
    bif Decidable.decide ((0 : Int) ≤ x12_1) && Decidable.decide (x12_1 < (↑x12_5.length : Int)) then
      bif x16_2 == (0 : Int) then
        some (Bool.false, PUnit.unit)
      else
        bif Decidable.decide (x12_1 > (0 : Int)) then
          bif Decidable.decide ((0 : Int) ≤ Go.IntKind.i64.wrap (x12_1 - (1 : Int))) && Decidable.decide (Go.IntKind.i64.wrap (x12_1 - (1 : Int)) < (↑x12_5.length : Int)) then
            bif Decidable.decide ((0 : Int) ≤ x12_1) && Decidable.decide (x12_1 < (↑x12_5.length : Int)) then
              bif Decidable.decide ((x12_5.getD (Go.IntKind.i64.wrap (x12_1 - (1 : Int))).toNat BE.ty44.dflt).fst ≥ (x12_5.getD x12_1.toNat BE.ty44.dflt).fst) then
                some (Bool.false, PUnit.unit)
              else
                bif Decidable.decide ((0 : Int) ≤ x12_1) && Decidable.decide (x12_1 < (↑x12_5.length : Int)) then
                  bif !Decidable.decide ((↑x12_4.length : Int) = (0 : Int)) then
                    bif Decidable.decide ((x12_5.getD x12_1.toNat BE.ty44.dflt).snd < Go.IntKind.i64.wrap ((Go.IntKind.i64.wrap ((16 : Int) * x16_2)).tdiv (↑x12_4.length : Int))) then
                      some (Bool.false, PUnit.unit)
                    else
                      bif Decidable.decide ((0 : Int) ≤ x12_1) && Decidable.decide (x12_1 < (↑x12_5.length : Int)) then
                        bif !Decidable.decide ((↑x12_4.length : Int) = (0 : Int)) then
                          bif Decidable.decide ((x12_5.getD x12_1.toNat BE.ty44.dflt).snd > Go.IntKind.i64.wrap (Go.IntKind.i64.wrap ((Go.IntKind.i64.wrap ((16 : Int) * x16_2)).tdiv (↑x12_4.length : Int)) + (1 : Int))) then
                            some (Bool.false, PUnit.unit)
                          else
                            k12 (Go.IntKind.i64.wrap (x12_0 + (x12_5.getD x12_1.toNat BE.ty44.dflt).snd), Go.IntKind.i64.wrap (x12_1 + (1 : Int)), x12_2, x12_3, x12_4, x12_5)
                        else
                          none
                      else
                        none
                  else
                    none
                else
                  none
            else
              none
          else
            none
        else
          bif Decidable.decide ((0 : Int) ≤ x12_1) && Decidable.decide (x12_1 < (↑x12_5.length : Int)) then
            bif !Decidable.decide ((↑x12_4.length : Int) = (0 : Int)) then
              bif Decidable.decide ((x12_5.getD x12_1.toNat BE.ty44.dflt).snd < Go.IntKind.i64.wrap ((Go.IntKind.i64.wrap ((16 : Int) * x16_2)).tdiv (↑x12_4.length : Int))) then
                some (Bool.false, PUnit.unit)
              else
                bif Decidable.decide ((0 : Int) ≤ x12_1) && Decidable.decide (x12_1 < (↑x12_5.length : Int)) then
                  bif !Decidable.decide ((↑x12_4.length : Int) = (0 : Int)) then
                    bif Decidable.decide ((x12_5.getD x12_1.toNat BE.ty44.dflt).snd > Go.IntKind.i64.wrap (Go.IntKind.i64.wrap ((Go.IntKind.i64.wrap ((16 : Int) * x16_2)).tdiv (↑x12_4.length : Int)) + (1 : Int))) then
                      some (Bool.false, PUnit.unit)
                    else
                      k12 (Go.IntKind.i64.wrap (x12_0 + (x12_5.getD x12_1.toNat BE.ty44.dflt).snd), Go.IntKind.i64.wrap (x12_1 + (1 : Int)), x12_2, x12_3, x12_4, x12_5)
                  else
                    none
                else
                  none
            else
              none
          else
            none
    else
      none
theorem Rules.b16_ev (c9 : (List T53) × Bool × Unit → Option (List T41 × List Int × Unit)) (c10 : Int × Int × Int × Unit → Option (Int × Unit)) (c11 : (List T41) × (List Int) × Int × Unit → Option (List Int × Unit)) (c16 : (List T41) × (List Int) × Int × Unit → Option (List T44 × Unit)) (c17 : (List T41) × Unit → Option (Int × Bool × Unit)) (c14 : Unit → Option (Bool × Unit)) (fuel : Nat) (k12 : St → Option (Bool × Unit)) (k16 : St → Option (Bool × Unit)) (a0 : (List T53)) (a1 : Int) (x12_0 : Int) (x12_1 : Int) (x12_2 : (List T41)) (x12_3 : (List Int)) (x12_4 : (List Int)) (x12_5 : (List T44)) (s : (Int × Int)) :
    bodyAt (Rules.E c9 c10 c11 c16 c17 c14) fuel 16 (Rules.C12 c9 c10 c11 c16 c17 c14 fuel) (Rules.K12 c9 c10 c11 c16 c17 c14 fuel k12) k16 (Rules.mk16 a0 a1 x12_0 x12_1 x12_2 x12_3 x12_4 x12_5 s) =
    Rules.b16 c9 c10 c11 c16 c17 c14 a0 a1 x12_0 x12_1 x12_2 x12_3 x12_4 x12_5 (fun t => k12 (Rules.mk12 a0 a1 t)) (fun t => k16 (Rules.mk16 a0 a1 x12_0 x12_1 x12_2 x12_3 x12_4 x12_5 t)) s := by kernel_rfl
noncomputable def Rules.l16 (c9 : (List T53) × Bool × Unit → Option (List T41 × List Int × Unit)) (c10 : Int × Int × Int × Unit → Option (Int × Unit)) (c11 : (List T41) × (List Int) × Int × Unit → Option (List Int × Unit)) (c16 : (List T41) × (List Int) × Int × Unit → Option (List T44 × Unit)) (c17 : (List T41) × Unit → Option (Int × Bool × Unit)) (c14 : Unit → Option (Bool × Unit)) (fuel : Nat) (a0 : (List T53)) (a1 : Int) (x12_0 : Int) (x12_1 : Int) (x12_2 : (List T41)) (x12_3 : (List Int)) (x12_4 : (List Int)) (x12_5 : (List T44)) (k12 : (Int × Int × (List T41) × (List Int) × (List Int) × (List T44)) → Option (Bool × Unit)) (n : Nat) (s : (Int × Int)) : Option (Bool × Unit) :=
  iterN (fun k16 s => Rules.b16 c9 c10 c11 c16 c17 c14 a0 a1 x12_0 x12_1 x12_2 x12_3 x12_4 x12_5 k12 k16 s) n s
theorem Rules.l16_ev (c9 : (List T53) × Bool × Unit → Option (List T41 × List Int × Unit)) (c10 : Int × Int × Int × Unit → Option (Int × Unit)) (c11 : (List T41) × (List Int) × Int × Unit → Option (List Int × Unit)) (c16 : (List T41) × (List Int) × Int × Unit → Option (List T44 × Unit)) (c17 : (List T41) × Unit → Option (Int × Bool × Unit)) (c14 : Unit → Option (Bool × Unit)) (fuel : Nat) (k12 : St → Option (Bool × Unit)) (a0 : (List T53)) (a1 : Int) (x12_0 : Int) (x12_1 : Int) (x12_2 : (List T41)) (x12_3 : (List Int)) (x12_4 : (List Int)) (x12_5 : (List T44)) (n : Nat) (s : (Int × Int)) :
    loopAt (Rules.E c9 c10 c11 c16 c17 c14) fuel 16 (Rules.C12 c9 c10 c11 c16 c17 c14 fuel) (Rules.K12 c9 c10 c11 c16 c17 c14 fuel k12) n (Rules.mk16 a0 a1 x12_0 x12_1 x12_2 x12_3 x12_4 x12_5 s) = Rules.l16 c9 c10 c11 c16 c17 c14 fuel a0 a1 x12_0 x12_1 x12_2 x12_3 x12_4 x12_5 (fun t => k12 (Rules.mk12 a0 a1 t)) n s :=
  loop_iter (fun k16 s => (Rules.b16_ev c9 c10 c11 c16 c17 c14 fuel k12 k16 a0 a1 x12_0 x12_1 x12_2 x12_3 x12_4 x12_5 s)) n s
noncomputable def Rules.b12 (c9 : (List T53) × Bool × Unit → Option (List T41 × List Int × Unit)) (c10 : Int × Int × Int × Unit → Option (Int × Unit)) (c11 : (List T41) × (List Int) × Int × Unit → Option (List Int × Unit)) (c16 : (List T41) × (List Int) × Int × Unit → Option (List T44 × Unit)) (c17 : (List T41) × Unit → Option (Int × Bool × Unit)) (c14 : Unit → Option (Bool × Unit)) (a0 : (List T53)) (a1 : Int) (i16 : Int → Int → (List T41) → (List Int) → (List Int) → (List T44) → (Int × Int) → Option (Bool × Unit)) (k12 : (Int × Int × (List T41) × (List Int) × (List Int) × (List T44)) → Option (Bool × Unit)) (s : (Int × Int × (List T41) × (List Int) × (List Int) × (List T44))) : Option (Bool × Unit) :=
  match s with
  | (x12_0, x12_1, x12_2, x12_3, x12_4, x12_5) =>
  bif Decidable.decide (x12_1 < (↑x12_5.length : Int)) then
    i16 x12_0 x12_1 x12_2 x12_3 x12_4 x12_5 ((0 : Int), (0 : Int))
  else
    bif x12_0 == (16 : Int) then
      (c16 (x12_2, x12_3, (1 : Int), ())).bind fun r5 =>
      bif (↑(List.length r5.fst) : Int) == (1 : Int) then
        (c14 ()).bind fun r6 =>
        some (r6.fst, PUnit.unit)
      else
        some (Bool.false, PUnit.unit)
    else
      some (Bool.false, PUnit.unit)
theorem Rules.b12_ev (c9 : (List T53) × Bool × Unit → Option (List T41 × List Int × Unit)) (c10 : Int × Int × Int × Unit → Option (Int × Unit)) (c11 : (List T41) × (List Int) × Int × Unit → Option (List Int × Unit)) (c16 : (List T41) × (List Int) × Int × Unit → Option (List T44 × Unit)) (c17 : (List T41) × Unit → Option (Int × Bool × Unit)) (c14 : Unit → Option (Bool × Unit)) (fuel : Nat) (k12 : St → Option (Bool × Unit)) (a0 : (List T53)) (a1 : Int) (s : (Int × Int × (List T41) × (List Int) × (List Int) × (List T44))) :
    bodyAt (Rules.E c9 c10 c11 c16 c17 c14) fuel 12 Rules.C (endK (Rules.E c9 c10 c11 c16 c17 c14) [.pure ty4] Try.f6) k12 (Rules.mk12 a0 a1 s) =
    Rules.b12 c9 c10 c11 c16 c17 c14 a0 a1 (fun x12_0 x12_1 x12_2 x12_3 x12_4 x12_5 t => loopAt (Rules.E c9 c10 c11 c16 c17 c14) fuel 16 (Rules.C12 c9 c10 c11 c16 c17 c14 fuel) (Rules.K12 c9 c10 c11 c16 c17 c14 fuel k12) fuel (Rules.mk16 a0 a1 x12_0 x12_1 x12_2 x12_3 x12_4 x12_5 t)) (fun t => k12 (Rules.mk12 a0 a1 t)) s := by kernel_rfl
noncomputable def Rules.l12 (c9 : (List T53) × Bool × Unit → Option (List T41 × List Int × Unit)) (c10 : Int × Int × Int × Unit → Option (Int × Unit)) (c11 : (List T41) × (List Int) × Int × Unit → Option (List Int × Unit)) (c16 : (List T41) × (List Int) × Int × Unit → Option (List T44 × Unit)) (c17 : (List T41) × Unit → Option (Int × Bool × Unit)) (c14 : Unit → Option (Bool × Unit)) (fuel : Nat) (a0 : (List T53)) (a1 : Int) (n : Nat) (s : (Int × Int × (List T41) × (List Int) × (List Int) × (List T44))) : Option (Bool × Unit) :=
  iterN (fun k12 s => Rules.b12 c9 c10 c11 c16 c17 c14 a0 a1 (fun x12_0 x12_1 x12_2 x12_3 x12_4 x12_5 t => Rules.l16 c9 c10 c11 c16 c17 c14 fuel a0 a1 x12_0 x12_1 x12_2 x12_3 x12_4 x12_5 k12 fuel t) k12 s) n s
theorem Rules.l12_ev (c9 : (List T53) × Bool × Unit → Option (List T41 × List Int × Unit)) (c10 : Int × Int × Int × Unit → Option (Int × Unit)) (c11 : (List T41) × (List Int) × Int × Unit → Option (List Int × Unit)) (c16 : (List T41) × (List Int) × Int × Unit → Option (List T44 × Unit)) (c17 : (List T41) × Unit → Option (Int × Bool × Unit)) (c14 : Unit → Option (Bool × Unit)) (fuel : Nat) (a0 : (List T53)) (a1 : Int) (n : Nat) (s : (Int × Int × (List T41) × (List Int) × (List Int) × (List T44))) :
    loopAt (Rules.E c9 c10 c11 c16 c17 c14) fuel 12 Rules.C (endK (Rules.E c9 c10 c11 c16 c17 c14) [.pure ty4] Try.f6) n (Rules.mk12 a0 a1 s) = Rules.l12 c9 c10 c11 c16 c17 c14 fuel a0 a1 n s :=
  loop_iter (fun k12 s => (Rules.b12_ev c9 c10 c11 c16 c17 c14 fuel k12 a0 a1 s).trans (congrFun (congrFun (congrArg (Rules.b12 c9 c10 c11 c16 c17 c14 a0 a1) (funext fun x12_0 => funext fun x12_1 => funext fun x12_2 => funext fun x12_3 => funext fun x12_4 => funext fun x12_5 => funext fun t => Rules.l16_ev c9 c10 c11 c16 c17 c14 fuel k12 a0 a1 x12_0 x12_1 x12_2 x12_3 x12_4 x12_5 fuel t)) (fun t => k12 (Rules.mk12 a0 a1 t))) s)) n s
noncomputable def Rules.b (c9 : (List T53) × Bool × Unit → Option (List T41 × List Int × Unit)) (c10 : Int × Int × Int × Unit → Option (Int × Unit)) (c11 : (List T41) × (List Int) × Int × Unit → Option (List Int × Unit)) (c16 : (List T41) × (List Int) × Int × Unit → Option (List T44 × Unit)) (c17 : (List T41) × Unit → Option (Int × Bool × Unit)) (c14 : Unit → Option (Bool × Unit)) (a0 : (List T53)) (a1 : Int) (i12 : (Int × Int × (List T41) × (List Int) × (List Int) × (List T44)) → Option (Bool × Unit)) : Option (Bool × Unit) :=
  (c9 (a0, Bool.true, ())).bind fun r0 =>
  (c10 (a1, (1 : Int), (8 : Int), ())).bind fun r1 =>
  (c11 (r0.fst, r0.snd.fst, r1.fst, ())).bind fun r2 =>
  (c16 (r0.fst, r0.snd.fst, r1.fst, ())).bind fun r3 =>
  (c17 (r0.fst, ())).bind fun r4 =>
  bif !r4.snd.fst then
    bif (↑(List.length r2.fst) : Int) == (0 : Int) then
      bif (↑(List.length r3.fst) : Int) == (0 : Int) then
        (c14 ()).bind fun r7 =>
        some (r7.fst, PUnit.unit)
      else
        some (Bool.false, PUnit.unit)
    else
      some (Bool.false, PUnit.unit)
  else
    bif Decidable.decide ((↑(List.length r2.fst) : Int) < (1 : Int)) then
      some (Bool.false, PUnit.unit)
    else
      bif Decidable.decide ((↑(List.length r2.fst) : Int) > r1.fst) then
        some (Bool.false, PUnit.unit)
      else
        bif Decidable.decide ((0 : Int) < (↑(List.length r2.fst) : Int)) then
          bif List.getD r2.fst (0 : Nat) (0 : Int) != r4.fst then
            some (Bool.false, PUnit.unit)
          else
            i12 ((0 : Int), (0 : Int), r0.fst, r0.snd.fst, r2.fst, r3.fst)
        else
          none
theorem Rules.b_ev (c9 : (List T53) × Bool × Unit → Option (List T41 × List Int × Unit)) (c10 : Int × Int × Int × Unit → Option (Int × Unit)) (c11 : (List T41) × (List Int) × Int × Unit → Option (List Int × Unit)) (c16 : (List T41) × (List Int) × Int × Unit → Option (List T44 × Unit)) (c17 : (List T41) × Unit → Option (Int × Bool × Unit)) (c14 : Unit → Option (Bool × Unit)) (fuel : Nat) (a0 : (List T53)) (a1 : Int) : evalBody (Rules.E c9 c10 c11 c16 c17 c14) fuel Try.f6 Rules.C [ty22, ty2] [.pure ty4] (a0, a1, ()) =
    Rules.b c9 c10 c11 c16 c17 c14 a0 a1 (fun t => loopAt (Rules.E c9 c10 c11 c16 c17 c14) fuel 12 Rules.C (endK (Rules.E c9 c10 c11 c16 c17 c14) [.pure ty4] Try.f6) fuel (Rules.mk12 a0 a1 t)) := by kernel_rfl
noncomputable def Rules.f (c9 : (List T53) × Bool × Unit → Option (List T41 × List Int × Unit)) (c10 : Int × Int × Int × Unit → Option (Int × Unit)) (c11 : (List T41) × (List Int) × Int × Unit → Option (List Int × Unit)) (c16 : (List T41) × (List Int) × Int × Unit → Option (List T44 × Unit)) (c17 : (List T41) × Unit → Option (Int × Bool × Unit)) (c14 : Unit → Option (Bool × Unit)) (fuel : Nat) (a0 : (List T53)) (a1 : Int) : Option (Bool × Unit) := Rules.b c9 c10 c11 c16 c17 c14 a0 a1 (fun t => Rules.l12 c9 c10 c11 c16 c17 c14 fuel a0 a1 fuel t)
theorem Rules.ev (c9 : (List T53) × Bool × Unit → Option (List T41 × List Int × Unit)) (c10 : Int × Int × Int × Unit → Option (Int × Unit)) (c11 : (List T41) × (List Int) × Int × Unit → Option (List Int × Unit)) (c16 : (List T41) × (List Int) × Int × Unit → Option (List T44 × Unit)) (c17 : (List T41) × Unit → Option (Int × Bool × Unit)) (c14 : Unit → Option (Bool × Unit)) (fuel : Nat) (a0 : (List T53)) (a1 : Int) : evalBody (Rules.E c9 c10 c11 c16 c17 c14) fuel Try.f6 Rules.C [ty22, ty2] [.pure ty4] (a0, a1, ()) = Rules.f c9 c10 c11 c16 c17 c14 fuel a0 a1 :=
  (Rules.b_ev c9 c10 c11 c16 c17 c14 fuel a0 a1).trans (congrArg (Rules.b c9 c10 c11 c16 c17 c14 a0 a1) (funext fun t => Rules.l12_ev c9 c10 c11 c16 c17 c14 fuel a0 a1 fuel t))

/-! ### Numbers -/
noncomputable def Numbers.E (c18 : (List T41) × (List Int) × Int × Unit → Option (Bool × Unit)) (c19 : (List T44) × (List T44) × Unit → Option (Bool × Unit)) (c14 : Unit → Option (Bool × Unit)) : Env := envOf Try.prog (pick [(18, ⟨[ty23, ty24, ty2], [.pure ty4], c18⟩), (19, ⟨[ty46, ty46], [.pure ty4], c19⟩), (14, ⟨[], [.pure ty4], c14⟩)]) (pick []) (pick [(2, [(1, none)]), (7, [(1, none), (2, none), (3, some ty2), (4, none)]), (12, [(1, none), (2, none), (3, none), (5, none)])])
noncomputable def Numbers.C : Code := Try.f7.body.getD .skip
noncomputable def Numbers.mk2 (s : Int) : St := { tmps := slots 76 0 [(1, (.one (.pure ty2 s)))], st := [], next := 0 }
noncomputable def Numbers.mk7 (x2_0 : Int) (s : (Int × (List T41) × (List Int))) : St := { tmps := slots 76 0 [(1, (.one (.pure ty2 x2_0))), (2, (.one (.own 0))), (3, (.one (.own 1))), (4, (.one (.pure ty2 s.1)))], st := [(0, (.row ty41 s.2.1)), (1, (.row ty2 s.2.2))], next := 2 }
noncomputable def Numbers.mk12 (x2_0 : Int) (x7_2 : (List T41)) (x7_3 : (List Int)) (s : Int) : St := { tmps := slots 76 0 [(1, (.one (.pure ty2 x2_0))), (2, (.one (.own 0))), (3, (.one (.own 1))), (5, (.one (.pure ty2 s)))], st := [(0, (.row ty41 x7_2)), (1, (.row ty2 x7_3))], next := 2 }
noncomputable def Numbers.C2 (c18 : (List T41) × (List Int) × Int × Unit → Option (Bool × Unit)) (c19 : (List T44) × (List T44) × Unit → Option (Bool × Unit)) (c14 : Unit → Option (Bool × Unit)) (fuel : Nat) : Code := codeAt (Numbers.E c18 c19 c14) fuel 2 Numbers.C
noncomputable def Numbers.K2 (c18 : (List T41) × (List Int) × Int × Unit → Option (Bool × Unit)) (c19 : (List T44) × (List T44) × Unit → Option (Bool × Unit)) (c14 : Unit → Option (Bool × Unit)) (fuel : Nat) (k2 : St → Option (Bool × Unit)) : Ex → St → Option (Bool × Unit) := contAt (Numbers.E c18 c19 c14) fuel 2 Numbers.C (endK (Numbers.E c18 c19 c14) [.pure ty4] Try.f7) k2
noncomputable def Numbers.b12 (c18 : (List T41) × (List Int) × Int × Unit → Option (Bool × Unit)) (c19 : (List T44) × (List T44) × Unit → Option (Bool × Unit)) (c14 : Unit → Option (Bool × Unit)) (x2_0 : Int) (x7_2 : (List T41)) (x7_3 : (List Int)) (k2 : Int → Option (Bool × Unit)) (k12 : Int → Option (Bool × Unit)) (s : Int) : Option (Bool × Unit) :=
  match s with
  | x12_1 =>
  bif Decidable.decide (x12_1 < (11 : Int)) then
    (c18 (x7_2, x7_3, x12_1, ())).bind fun r5 =>
    bif !r5.fst then
      some (Bool.false, PUnit.unit)
    else
      bif Decidable.decide ((0 : Int) ≤ Go.IntKind.i64.wrap (x2_0.tdiv (2 : Int))) && Decidable.decide (Go.IntKind.i64.wrap (x2_0.tdiv (2 : Int)) ≤ (↑x7_3.length : Int)) && Decidable.decide ((↑x7_3.length : Int) ≤ (↑x7_3.length : Int)) then
        (c18 (x7_2, List.take ((↑x7_3.length : Int).toNat - (Go.IntKind.i64.wrap (x2_0.tdiv (2 : Int))).toNat) (List.drop (Go.IntKind.i64.wrap (x2_0.tdiv (2 : Int))).toNat x7_3), x12_1, ())).bind fun r6 =>
        bif !r6.fst then
          some (Bool.false, PUnit.unit)
        else
          k12 (Go.IntKind.i64.wrap (x12_1 + (1 : Int)))
      else
        none
  else
    k2 (Go.IntKind.i64.wrap (x2_0 + (1 : Int)))
theorem Numbers.b12_ev (c18 : (List T41) × (List Int) × Int × Unit → Option (Bool × Unit)) (c19 : (List T44) × (List T44) × Unit → Option (Bool × Unit)) (c14 : Unit → Option (Bool × Unit)) (fuel : Nat) (k2 : St → Option (Bool × Unit)) (k12 : St → Option (Bool × Unit)) (x2_0 : Int) (x7_2 : (List T41)) (x7_3 : (List Int)) (s : Int) :
    bodyAt (Numbers.E c18 c19 c14) fuel 12 (Numbers.C2 c18 c19 c14 fuel) (Numbers.K2 c18 c19 c14 fuel k2) k12 (Numbers.mk12 x2_0 x7_2 x7_3 s) =
    Numbers.b12 c18 c19 c14 x2_0 x7_2 x7_3 (fun t => k2 (Numbers.mk2 t)) (fun t => k12 (Numbers.mk12 x2_0 x7_2 x7_3 t)) s := by kernel_rfl
noncomputable def Numbers.l12 (c18 : (List T41) × (List Int) × Int × Unit → Option (Bool × Unit)) (c19 : (List T44) × (List T44) × Unit → Option (Bool × Unit)) (c14 : Unit → Option (Bool × Unit)) (fuel : Nat) (x2_0 : Int) (x7_2 : (List T41)) (x7_3 : (List Int)) (k2 : Int → Option (Bool × Unit)) (n : Nat) (s : Int) : Option (Bool × Unit) :=
  iterN (fun k12 s => Numbers.b12 c18 c19 c14 x2_0 x7_2 x7_3 k2 k12 s) n s
theorem Numbers.l12_ev (c18 : (List T41) × (List Int) × Int × Unit → Option (Bool × Unit)) (c19 : (List T44) × (List T44) × Unit → Option (Bool × Unit)) (c14 : Unit → Option (Bool × Unit)) (fuel : Nat) (k2 : St → Option (Bool × Unit)) (x2_0 : Int) (x7_2 : (List T41)) (x7_3 : (List Int)) (n : Nat) (s : Int) :
    loopAt (Numbers.E c18 c19 c14) fuel 12 (Numbers.C2 c18 c19 c14 fuel) (Numbers.K2 c18 c19 c14 fuel k2) n (Numbers.mk12 x2_0 x7_2 x7_3 s) = Numbers.l12 c18 c19 c14 fuel x2_0 x7_2 x7_3 (fun t => k2 (Numbers.mk2 t)) n s :=
  loop_iter (fun k12 s => (Numbers.b12_ev c18 c19 c14 fuel k2 k12 x2_0 x7_2 x7_3 s)) n s
noncomputable def Numbers.b7 (c18 : (List T41) × (List Int) × Int × Unit → Option (Bool × Unit)) (c19 : (List T44) × (List T44) × Unit → Option (Bool × Unit)) (c14 : Unit → Option (Bool × Unit)) (x2_0 : Int) (i12 : Int → (List T41) → (List Int) → Int → Option (Bool × Unit)) (k2 : Int → Option (Bool × Unit)) (k7 : (Int × (List T41) × (List Int)) → Option (Bool × Unit)) (s : (Int × (List T41) × (List Int))) : Option (Bool × Unit) :=
  match s with
  | (x7_1, x7_2, x7_3) =>
  bif Decidable.decide (x7_1 < x2_0) then
    bif Decidable.decide ((0 : Int) ≤ x7_1) && Decidable.decide (x7_1 < (↑x7_2.length : Int)) then
      bif Decidable.decide ((x7_3.length + (1 : Nat)) * (8 : Nat) ≤ Go.Ev.maxBytes) then
        k7 (Go.IntKind.i64.wrap (x7_1 + (1 : Int)), x7_2.set x7_1.toNat (((x7_2.getD x7_1.toNat BE.ty41.dflt).fst.fst, Go.IntKind.u32.wrap (Go.IntKind.i64.wrap ((50 : Int) - x7_1)), (x7_2.getD x7_1.toNat BE.ty41.dflt).fst.snd.snd), (x7_2.getD x7_1.toNat BE.ty41.dflt).snd), x7_3 ++ [(Go.IntKind.i64.wrap (x7_1 * x7_1)).tmod (7 : Int)])
      else
        none
    else
      none
  else
    i12 x2_0 x7_2 x7_3 ((-1 : Int))
theorem Numbers.b7_ev (c18 : (List T41) × (List Int) × Int × Unit → Option (Bool × Unit)) (c19 : (List T44) × (List T44) × Unit → Option (Bool × Unit)) (c14 : Unit → Option (Bool × Unit)) (fuel : Nat) (k2 : St → Option (Bool × Unit)) (k7 : St → Option (Bool × Unit)) (x2_0 : Int) (s : (Int × (List T41) × (List Int))) :
    bodyAt (Numbers.E c18 c19 c14) fuel 7 (Numbers.C2 c18 c19 c14 fuel) (Numbers.K2 c18 c19 c14 fuel k2) k7 (Numbers.mk7 x2_0 s) =
    Numbers.b7 c18 c19 c14 x2_0 (fun x2_0 x7_2 x7_3 t => loopAt (Numbers.E c18 c19 c14) fuel 12 (Numbers.C2 c18 c19 c14 fuel) (Numbers.K2 c18 c19 c14 fuel k2) fuel (Numbers.mk12 x2_0 x7_2 x7_3 t)) (fun t => k2 (Numbers.mk2 t)) (fun t => k7 (Numbers.mk7 x2_0 t)) s := by kernel_rfl
noncomputable def Numbers.l7 (c18 : (List T41) × (List Int) × Int × Unit → Option (Bool × Unit)) (c19 : (List T44) × (List T44) × Unit → Option (Bool × Unit)) (c14 : Unit → Option (Bool × Unit)) (fuel : Nat) (x2_0 : Int) (k2 : Int → Option (Bool × Unit)) (n : Nat) (s : (Int × (List T41) × (List Int))) : Option (Bool × Unit) :=
  iterN (fun k7 s => Numbers.b7 c18 c19 c14 x2_0 (fun x2_0 x7_2 x7_3 t => Numbers.l12 c18 c19 c14 fuel x2_0 x7_2 x7_3 k2 fuel t) k2 k7 s) n s
theorem Numbers.l7_ev (c18 : (List T41) × (List Int) × Int × Unit → Option (Bool × Unit)) (c19 : (List T44) × (List T44) × Unit → Option (Bool × Unit)) (c14 : Unit → Option (Bool × Unit)) (fuel : Nat) (k2 : St → Option (Bool × Unit)) (x2_0 : Int) (n : Nat) (s : (Int × (List T41) × (List Int))) :
    loopAt (Numbers.E c18 c19 c14) fuel 7 (Numbers.C2 c18 c19 c14 fuel) (Numbers.K2 c18 c19 c14 fuel k2) n (Numbers.mk7 x2_0 s) = Numbers.l7 c18 c19 c14 fuel x2_0 (fun t => k2 (Numbers.mk2 t)) n s :=
  loop_iter (fun k7 s => (Numbers.b7_ev c18 c19 c14 fuel k2 k7 x2_0 s).trans (congrFun (congrFun (congrFun (congrArg (Numbers.b7 c18 c19 c14 x2_0) (funext fun x2_0 => funext fun x7_2 => funext fun x7_3 => funext fun t => Numbers.l12_ev c18 c19 c14 fuel k2 x2_0 x7_2 x7_3 fuel t)) (fun t => k2 (Numbers.mk2 t))) (fun t => k7 (Numbers.mk7 x2_0 t))) s)) n s
noncomputable def Numbers.b2 (c18 : (List T41) × (List Int) × Int × Unit → Option (Bool × Unit)) (c19 : (List T44) × (List T44) × Unit → Option (Bool × Unit)) (c14 : Unit → Option (Bool × Unit)) (i7 : Int → (Int × (List T41) × (List Int)) → Option (Bool × Unit)) (k2 : Int → Option (Bool × Unit)) (s : Int) : Option (Bool × Unit) :=
  match s with
  | x2_0 =>
  bif Decidable.decide (x2_0 < (20 : Int)) then
    bif Decidable.decide ((0 : Int) ≤ x2_0) && Decidable.decide (x2_0 ≤ x2_0) && Decidable.decide (x2_0 * (↑(112 : Nat) : Int) ≤ (↑Go.Ev.maxBytes : Int)) && Decidable.decide (x2_0 ≤ (9223372036854775807 : Int)) then
      i7 x2_0 ((0 : Int), List.replicate x2_0.toNat BE.ty41.dflt, [])
    else
      none
  else
    (c19 ([], [], ())).bind fun r0 =>
    bif r0.fst then
      (c19 ([((1 : Int), (2 : Int))], [((1 : Int), (2 : Int))], ())).bind fun r1 =>
      bif r1.fst then
        (c19 ([((1 : Int), (2 : Int))], [((1 : Int), (3 : Int))], ())).bind fun r2 =>
        bif !r2.fst then
          (c19 ([], [((0 : Int), (0 : Int))], ())).bind fun r3 =>
          bif !r3.fst then
            (c14 ()).bind fun r4 =>
            some (r4.fst, PUnit.unit)
          else
            some (Bool.false, PUnit.unit)
        else
          some (Bool.false, PUnit.unit)
      else
        some (Bool.false, PUnit.unit)
    else
      some (Bool.false, PUnit.unit)
theorem Numbers.b2_ev (c18 : (List T41) × (List Int) × Int × Unit → Option (Bool × Unit)) (c19 : (List T44) × (List T44) × Unit → Option (Bool × Unit)) (c14 : Unit → Option (Bool × Unit)) (fuel : Nat) (k2 : St → Option (Bool × Unit)) (s : Int) :
    bodyAt (Numbers.E c18 c19 c14) fuel 2 Numbers.C (endK (Numbers.E c18 c19 c14) [.pure ty4] Try.f7) k2 (Numbers.mk2 s) =
    Numbers.b2 c18 c19 c14 (fun x2_0 t => loopAt (Numbers.E c18 c19 c14) fuel 7 (Numbers.C2 c18 c19 c14 fuel) (Numbers.K2 c18 c19 c14 fuel k2) fuel (Numbers.mk7 x2_0 t)) (fun t => k2 (Numbers.mk2 t)) s := by kernel_rfl
noncomputable def Numbers.l2 (c18 : (List T41) × (List Int) × Int × Unit → Option (Bool × Unit)) (c19 : (List T44) × (List T44) × Unit → Option (Bool × Unit)) (c14 : Unit → Option (Bool × Unit)) (fuel : Nat) (n : Nat) (s : Int) : Option (Bool × Unit) :=
  iterN (fun k2 s => Numbers.b2 c18 c19 c14 (fun x2_0 t => Numbers.l7 c18 c19 c14 fuel x2_0 k2 fuel t) k2 s) n s
theorem Numbers.l2_ev (c18 : (List T41) × (List Int) × Int × Unit → Option (Bool × Unit)) (c19 : (List T44) × (List T44) × Unit → Option (Bool × Unit)) (c14 : Unit → Option (Bool × Unit)) (fuel : Nat) (n : Nat) (s : Int) :
    loopAt (Numbers.E c18 c19 c14) fuel 2 Numbers.C (endK (Numbers.E c18 c19 c14) [.pure ty4] Try.f7) n (Numbers.mk2 s) = Numbers.l2 c18 c19 c14 fuel n s :=
  loop_iter (fun k2 s => (Numbers.b2_ev c18 c19 c14 fuel k2 s).trans (congrFun (congrFun (congrArg (Numbers.b2 c18 c19 c14) (funext fun x2_0 => funext fun t => Numbers.l7_ev c18 c19 c14 fuel k2 x2_0 fuel t)) (fun t => k2 (Numbers.mk2 t))) s)) n s
noncomputable def Numbers.b (c18 : (List T41) × (List Int) × Int × Unit → Option (Bool × Unit)) (c19 : (List T44) × (List T44) × Unit → Option (Bool × Unit)) (c14 : Unit → Option (Bool × Unit)) (i2 : Int → Option (Bool × Unit)) : Option (Bool × Unit) :=
  i2 ((0 : Int))
theorem Numbers.b_ev (c18 : (List T41) × (List Int) × Int × Unit → Option (Bool × Unit)) (c19 : (List T44) × (List T44) × Unit → Option (Bool × Unit)) (c14 : Unit → Option (Bool × Unit)) (fuel : Nat) : evalBody (Numbers.E c18 c19 c14) fuel Try.f7 Numbers.C [] [.pure ty4] (()) =
    Numbers.b c18 c19 c14 (fun t => loopAt (Numbers.E c18 c19 c14) fuel 2 Numbers.C (endK (Numbers.E c18 c19 c14) [.pure ty4] Try.f7) fuel (Numbers.mk2 t)) := by kernel_rfl
noncomputable def Numbers.f (c18 : (List T41) × (List Int) × Int × Unit → Option (Bool × Unit)) (c19 : (List T44) × (List T44) × Unit → Option (Bool × Unit)) (c14 : Unit → Option (Bool × Unit)) (fuel : Nat) : Option (Bool × Unit) := Numbers.b c18 c19 c14 (fun t => Numbers.l2 c18 c19 c14 fuel fuel t)
theorem Numbers.ev (c18 : (List T41) × (List Int) × Int × Unit → Option (Bool × Unit)) (c19 : (List T44) × (List T44) × Unit → Option (Bool × Unit)) (c14 : Unit → Option (Bool × Unit)) (fuel : Nat) : evalBody (Numbers.E c18 c19 c14) fuel Try.f7 Numbers.C [] [.pure ty4] (()) = Numbers.f c18 c19 c14 fuel :=
  (Numbers.b_ev c18 c19 c14 fuel).trans (congrArg (Numbers.b c18 c19 c14) (funext fun t => Numbers.l2_ev c18 c19 c14 fuel fuel t))

/-! ### Tells -/
noncomputable def Tells.E (c9 : (List T53) × Bool × Unit → Option (List T41 × List Int × Unit)) (c10 : Int × Int × Int × Unit → Option (Int × Unit)) (c18 : (List T41) × (List Int) × Int × Unit → Option (Bool × Unit)) (c19 : (List T44) × (List T44) × Unit → Option (Bool × Unit)) (c20 : (List T44) × (List T44) × Unit → Option (Bool × Unit)) (c14 : Unit → Option (Bool × Unit)) : Env := envOf Try.prog (pick [(9, ⟨[ty22, ty4], [.fresh ty41, .fresh ty2], c9⟩), (10, ⟨[ty2, ty2, ty2], [.pure ty2], c10⟩), (18, ⟨[ty23, ty24, ty2], [.pure ty4], c18⟩), (19, ⟨[ty46, ty46], [.pure ty4], c19⟩), (20, ⟨[ty46, ty46], [.pure ty4], c20⟩), (14, ⟨[], [.pure ty4], c14⟩)]) (pick []) (pick [])
noncomputable def Tells.C : Code := Try.f8.body.getD .skip
noncomputable def Tells.b (c9 : (List T53) × Bool × Unit → Option (List T41 × List Int × Unit)) (c10 : Int × Int × Int × Unit → Option (Int × Unit)) (c18 : (List T41) × (List Int) × Int × Unit → Option (Bool × Unit)) (c19 : (List T44) × (List T44) × Unit → Option (Bool × Unit)) (c20 : (List T44) × (List T44) × Unit → Option (Bool × Unit)) (c14 : Unit → Option (Bool × Unit)) (a0 : (List T53)) (a1 : Int) (a2 : (List T44)) (a3 : (List T44)) : Option (Bool × Unit) :=
  (c9 (a0, Bool.false, ())).bind fun r0 =>
  (c9 (a0, Bool.true, ())).bind fun r1 =>
  (c10 (a1, (1 : Int), (8 : Int), ())).bind fun r2 =>
  (c18 (r0.fst, r0.snd.fst, r2.fst, ())).bind fun r3 =>
  bif r3.fst then
    (c18 (r1.fst, r1.snd.fst, r2.fst, ())).bind fun r4 =>
    bif r4.fst then
      (c18 (r1.fst, r1.snd.fst, a1, ())).bind fun r5 =>
      bif r5.fst then
        (c19 (a2, a3, ())).bind fun r6 =>
        (c20 (a2, a3, ())).bind fun r7 =>
        bif r6.fst == r7.fst then
          bif Decidable.decide (((0 : Nat) + List.length a2) * (16 : Nat) ≤ Go.Ev.maxBytes) then
            (c19 (a2, [] ++ a2, ())).bind fun r8 =>
            bif r8.fst then
              (c14 ()).bind fun r9 =>
              some (r9.fst, PUnit.unit)
            else
              some (Bool.false, PUnit.unit)
          else
            none
        else
          some (Bool.false, PUnit.unit)
      else
        some (Bool.false, PUnit.unit)
    else
      some (Bool.false, PUnit.unit)
  else
    some (Bool.false, PUnit.unit)
theorem Tells.b_ev (c9 : (List T53) × Bool × Unit → Option (List T41 × List Int × Unit)) (c10 : Int × Int × Int × Unit → Option (Int × Unit)) (c18 : (List T41) × (List Int) × Int × Unit → Option (Bool × Unit)) (c19 : (List T44) × (List T44) × Unit → Option (Bool × Unit)) (c20 : (List T44) × (List T44) × Unit → Option (Bool × Unit)) (c14 : Unit → Option (Bool × Unit)) (fuel : Nat) (a0 : (List T53)) (a1 : Int) (a2 : (List T44)) (a3 : (List T44)) : evalBody (Tells.E c9 c10 c18 c19 c20 c14) fuel Try.f8 Tells.C [ty22, ty2, ty46, ty46] [.pure ty4] (a0, a1, a2, a3, ()) =
    Tells.b c9 c10 c18 c19 c20 c14 a0 a1 a2 a3 := by kernel_rfl
noncomputable def Tells.f (c9 : (List T53) × Bool × Unit → Option (List T41 × List Int × Unit)) (c10 : Int × Int × Int × Unit → Option (Int × Unit)) (c18 : (List T41) × (List Int) × Int × Unit → Option (Bool × Unit)) (c19 : (List T44) × (List T44) × Unit → Option (Bool × Unit)) (c20 : (List T44) × (List T44) × Unit → Option (Bool × Unit)) (c14 : Unit → Option (Bool × Unit)) (fuel : Nat) (a0 : (List T53)) (a1 : Int) (a2 : (List T44)) (a3 : (List T44)) : Option (Bool × Unit) := Tells.b c9 c10 c18 c19 c20 c14 a0 a1 a2 a3
theorem Tells.ev (c9 : (List T53) × Bool × Unit → Option (List T41 × List Int × Unit)) (c10 : Int × Int × Int × Unit → Option (Int × Unit)) (c18 : (List T41) × (List Int) × Int × Unit → Option (Bool × Unit)) (c19 : (List T44) × (List T44) × Unit → Option (Bool × Unit)) (c20 : (List T44) × (List T44) × Unit → Option (Bool × Unit)) (c14 : Unit → Option (Bool × Unit)) (fuel : Nat) (a0 : (List T53)) (a1 : Int) (a2 : (List T44)) (a3 : (List T44)) : evalBody (Tells.E c9 c10 c18 c19 c20 c14) fuel Try.f8 Tells.C [ty22, ty2, ty46, ty46] [.pure ty4] (a0, a1, a2, a3, ()) = Tells.f c9 c10 c18 c19 c20 c14 fuel a0 a1 a2 a3 :=
  (Tells.b_ev c9 c10 c18 c19 c20 c14 fuel a0 a1 a2 a3)

/-! ### cands -/
noncomputable def cands.E (c21 : T36 × Unit → Option (T36 × Unit)) (c10 : Int × Int × Int × Unit → Option (Int × Unit)) : Env := envOf Try.prog (pick [(21, ⟨[ty36], [.pure ty36], c21⟩), (10, ⟨[ty2, ty2, ty2], [.pure ty2], c10⟩)]) (pick []) (pick [(4, [(0, none), (1, none), (6, some ty41), (7, some ty2), (8, none)])])
noncomputable def cands.C : Code := Try.f9.body.getD .skip
noncomputable def cands.mk4 (a0 : (List T53)) (a1 : Bool) (s : (Int × (List T41) × (List Int))) : St := { tmps := slots 77 0 [(0, (.one (.pure ty22 a0))), (1, (.one (.pure ty4 a1))), (6, (.one (.own 0))), (7, (.one (.own 1))), (8, (.one (.pure ty2 s.1)))], st := [(0, (.row ty41 s.2.1)), (1, (.row ty2 s.2.2))], next := 2 }
noncomputable def cands.b4 (c21 : T36 × Unit → Option (T36 × Unit)) (c10 : Int × Int × Int × Unit → Option (Int × Unit)) (a0 : (List T53)) (a1 : Bool) (k4 : (Int × (List T41) × (List Int)) → Option (List T41 × List Int × Unit)) (s : (Int × (List T41) × (List Int))) : Option (List T41 × List Int × Unit) :=
  match s with
  | (x4_2, x4_3, x4_4) =>
  bif Decidable.decide (x4_2 < (↑(List.length a0) : Int)) then
    bif Decidable.decide (x4_2 < (12 : Int)) then
      bif Decidable.decide ((0 : Int) ≤ x4_2) && Decidable.decide (x4_2 < (↑(List.length a0) : Int)) then
        (c21 ((List.getD a0 x4_2.toNat BE.ty53.dflt).snd.snd.snd.fst, ())).bind fun r0 =>
        bif a1 then
          bif Decidable.decide ((x4_3.length + (1 : Nat)) * (112 : Nat) ≤ Go.Ev.maxBytes) then
            (c10 ((List.getD a0 x4_2.toNat BE.ty53.dflt).snd.snd.snd.snd.snd, (0 : Int), (4 : Int), ())).bind fun r2 =>
            bif Decidable.decide ((x4_4.length + (1 : Nat)) * (8 : Nat) ≤ Go.Ev.maxBytes) then
              k4 (Go.IntKind.i64.wrap (x4_2 + (1 : Int)), x4_3 ++ [((x4_2, Int.tmod (List.getD a0 x4_2.toNat BE.ty53.dflt).fst (4 : Int), (List.getD a0 x4_2.toNat BE.ty53.dflt).snd.fst, Bool.false, (0 : Int), [], (List.getD a0 x4_2.toNat BE.ty53.dflt).snd.snd.snd.fst.snd.snd.fst, (List.getD a0 x4_2.toNat BE.ty53.dflt).snd.snd.snd.fst.snd.snd.snd.fst, Int.tmod (List.getD a0 x4_2.toNat BE.ty53.dflt).snd.snd.snd.fst.snd.snd.snd.snd.fst (2 : Int), Bool.false, (0 : Int), Bool.false, []), Go.FloatKind.f64.nearest (Int.tmod (List.getD a0 x4_2.toNat BE.ty53.dflt).snd.fst (2 : Int)))], x4_4 ++ [r2.fst])
            else
              none
          else
            none
        else
          bif Decidable.decide ((x4_3.length + (1 : Nat)) * (112 : Nat) ≤ Go.Ev.maxBytes) then
            (c10 ((List.getD a0 x4_2.toNat BE.ty53.dflt).snd.snd.snd.snd.snd, (0 : Int), (4 : Int), ())).bind fun r1 =>
            bif Decidable.decide ((x4_4.length + (1 : Nat)) * (8 : Nat) ≤ Go.Ev.maxBytes) then
              k4 (Go.IntKind.i64.wrap (x4_2 + (1 : Int)), x4_3 ++ [((x4_2, (List.getD a0 x4_2.toNat BE.ty53.dflt).fst, (List.getD a0 x4_2.toNat BE.ty53.dflt).snd.fst, (List.getD a0 x4_2.toNat BE.ty53.dflt).snd.snd.fst, r0.fst), (List.getD a0 x4_2.toNat BE.ty53.dflt).snd.snd.snd.snd.fst)], x4_4 ++ [r1.fst])
            else
              none
          else
            none
      else
        none
    else
      some (x4_3, (x4_4, PUnit.unit))
  else
    some (x4_3, (x4_4, PUnit.unit))
theorem cands.b4_ev (c21 : T36 × Unit → Option (T36 × Unit)) (c10 : Int × Int × Int × Unit → Option (Int × Unit)) (fuel : Nat) (k4 : St → Option (List T41 × List Int × Unit)) (a0 : (List T53)) (a1 : Bool) (s : (Int × (List T41) × (List Int))) :
    bodyAt (cands.E c21 c10) fuel 4 cands.C (endK (cands.E c21 c10) [.fresh ty41, .fresh ty2] Try.f9) k4 (cands.mk4 a0 a1 s) =
    cands.b4 c21 c10 a0 a1 (fun t => k4 (cands.mk4 a0 a1 t)) s := by kernel_rfl
noncomputable def cands.l4 (c21 : T36 × Unit → Option (T36 × Unit)) (c10 : Int × Int × Int × Unit → Option (Int × Unit)) (fuel : Nat) (a0 : (List T53)) (a1 : Bool) (n : Nat) (s : (Int × (List T41) × (List Int))) : Option (List T41 × List Int × Unit) :=
  iterN (fun k4 s => cands.b4 c21 c10 a0 a1 k4 s) n s
theorem cands.l4_ev (c21 : T36 × Unit → Option (T36 × Unit)) (c10 : Int × Int × Int × Unit → Option (Int × Unit)) (fuel : Nat) (a0 : (List T53)) (a1 : Bool) (n : Nat) (s : (Int × (List T41) × (List Int))) :
    loopAt (cands.E c21 c10) fuel 4 cands.C (endK (cands.E c21 c10) [.fresh ty41, .fresh ty2] Try.f9) n (cands.mk4 a0 a1 s) = cands.l4 c21 c10 fuel a0 a1 n s :=
  loop_iter (fun k4 s => (cands.b4_ev c21 c10 fuel k4 a0 a1 s)) n s
noncomputable def cands.b (c21 : T36 × Unit → Option (T36 × Unit)) (c10 : Int × Int × Int × Unit → Option (Int × Unit)) (a0 : (List T53)) (a1 : Bool) (i4 : (Int × (List T41) × (List Int)) → Option (List T41 × List Int × Unit)) : Option (List T41 × List Int × Unit) :=
  i4 ((0 : Int), [], [])
theorem cands.b_ev (c21 : T36 × Unit → Option (T36 × Unit)) (c10 : Int × Int × Int × Unit → Option (Int × Unit)) (fuel : Nat) (a0 : (List T53)) (a1 : Bool) : evalBody (cands.E c21 c10) fuel Try.f9 cands.C [ty22, ty4] [.fresh ty41, .fresh ty2] (a0, a1, ()) =
    cands.b c21 c10 a0 a1 (fun t => loopAt (cands.E c21 c10) fuel 4 cands.C (endK (cands.E c21 c10) [.fresh ty41, .fresh ty2] Try.f9) fuel (cands.mk4 a0 a1 t)) := by kernel_rfl
noncomputable def cands.f (c21 : T36 × Unit → Option (T36 × Unit)) (c10 : Int × Int × Int × Unit → Option (Int × Unit)) (fuel : Nat) (a0 : (List T53)) (a1 : Bool) : Option (List T41 × List Int × Unit) := cands.b c21 c10 a0 a1 (fun t => cands.l4 c21 c10 fuel a0 a1 fuel t)
theorem cands.ev (c21 : T36 × Unit → Option (T36 × Unit)) (c10 : Int × Int × Int × Unit → Option (Int × Unit)) (fuel : Nat) (a0 : (List T53)) (a1 : Bool) : evalBody (cands.E c21 c10) fuel Try.f9 cands.C [ty22, ty4] [.fresh ty41, .fresh ty2] (a0, a1, ()) = cands.f c21 c10 fuel a0 a1 :=
  (cands.b_ev c21 c10 fuel a0 a1).trans (congrArg (cands.b c21 c10 a0 a1) (funext fun t => cands.l4_ev c21 c10 fuel a0 a1 fuel t))

/-! ### Within -/
noncomputable def Within.E : Env := envOf Try.prog (pick []) (pick []) (pick [])
noncomputable def Within.C : Code := Try.f10.body.getD .skip
noncomputable def Within.b (a0 : Int) (a1 : Int) (a2 : Int) : Option (Int × Unit) :=
  bif !Decidable.decide (Go.IntKind.i64.wrap (Go.IntKind.i64.wrap (a2 - a1) + (1 : Int)) = (0 : Int)) then
    bif Decidable.decide (Int.tmod a0 (Go.IntKind.i64.wrap (Go.IntKind.i64.wrap (a2 - a1) + (1 : Int))) < (0 : Int)) then
      some (Go.IntKind.i64.wrap (a1 + Go.IntKind.i64.wrap (Go.IntKind.i64.wrap (Go.IntKind.i64.wrap (Int.tmod a0 (Go.IntKind.i64.wrap (Go.IntKind.i64.wrap (a2 - a1) + (1 : Int))) + a2) - a1) + (1 : Int))), PUnit.unit)
    else
      some (Go.IntKind.i64.wrap (a1 + Int.tmod a0 (Go.IntKind.i64.wrap (Go.IntKind.i64.wrap (a2 - a1) + (1 : Int)))), PUnit.unit)
  else
    none
theorem Within.b_ev (fuel : Nat) (a0 : Int) (a1 : Int) (a2 : Int) : evalBody (Within.E) fuel Try.f10 Within.C [ty2, ty2, ty2] [.pure ty2] (a0, a1, a2, ()) =
    Within.b a0 a1 a2 := by kernel_rfl
noncomputable def Within.f (fuel : Nat) (a0 : Int) (a1 : Int) (a2 : Int) : Option (Int × Unit) := Within.b a0 a1 a2
theorem Within.ev (fuel : Nat) (a0 : Int) (a1 : Int) (a2 : Int) : evalBody (Within.E) fuel Try.f10 Within.C [ty2, ty2, ty2] [.pure ty2] (a0, a1, a2, ()) = Within.f fuel a0 a1 a2 :=
  (Within.b_ev fuel a0 a1 a2)

/-! ### Set -/
noncomputable def Set.E (c12 : (List T41) × Int × Unit → Option (List Int × Unit)) (c22 : (List Int) × ((List T41) × Unit) × Unit → Option ((Unit) × ((List Int) × ((List T41) × Unit) × Unit))) : Env := envOf Try.prog (pick [(12, ⟨[ty23, ty2], [.fresh ty2], c12⟩)]) (pick [(22, extBy ⟨[.row ty2, .fn 23 [ty23]], [], c22⟩)]) (pick [])
noncomputable def Set.C : Code := Try.f11.body.getD .skip
noncomputable def Set.b (c12 : (List T41) × Int × Unit → Option (List Int × Unit)) (c22 : (List Int) × ((List T41) × Unit) × Unit → Option ((Unit) × ((List Int) × ((List T41) × Unit) × Unit))) (a0 : (List T41)) (a1 : (List Int)) (a2 : Int) : Option (List Int × Unit) :=
  bif (↑(List.length a1) : Int) != (↑(List.length a0) : Int) then
    some ([], PUnit.unit)
  else
    bif Decidable.decide (a2 < (1 : Int)) then
      some ([], PUnit.unit)
    else
      bif Decidable.decide (a2 > (8 : Int)) then
        some ([], PUnit.unit)
      else
        (c12 (a0, (6 : Int), ())).bind fun r0 =>
        (c22 (r0.fst, (a0, ()), ())).bind fun r1 =>
        bif Decidable.decide ((0 : Int) ≤ if a2 < (↑(List.length r1.snd.fst) : Int) then a2 else (↑(List.length r1.snd.fst) : Int)) && Decidable.decide ((if a2 < (↑(List.length r1.snd.fst) : Int) then a2 else (↑(List.length r1.snd.fst) : Int)) ≤ (↑(List.length r1.snd.fst) : Int)) then
          some (List.take (Int.toNat (if a2 < (↑(List.length r1.snd.fst) : Int) then a2 else (↑(List.length r1.snd.fst) : Int)) - (0 : Nat)) (List.drop (0 : Nat) r1.snd.fst), PUnit.unit)
        else
          none
theorem Set.b_ev (c12 : (List T41) × Int × Unit → Option (List Int × Unit)) (c22 : (List Int) × ((List T41) × Unit) × Unit → Option ((Unit) × ((List Int) × ((List T41) × Unit) × Unit))) (fuel : Nat) (a0 : (List T41)) (a1 : (List Int)) (a2 : Int) : evalBody (Set.E c12 c22) fuel Try.f11 Set.C [ty23, ty24, ty2] [.fresh ty2] (a0, a1, a2, ()) =
    Set.b c12 c22 a0 a1 a2 := by kernel_rfl
noncomputable def Set.f (c12 : (List T41) × Int × Unit → Option (List Int × Unit)) (c22 : (List Int) × ((List T41) × Unit) × Unit → Option ((Unit) × ((List Int) × ((List T41) × Unit) × Unit))) (fuel : Nat) (a0 : (List T41)) (a1 : (List Int)) (a2 : Int) : Option (List Int × Unit) := Set.b c12 c22 a0 a1 a2
theorem Set.ev (c12 : (List T41) × Int × Unit → Option (List Int × Unit)) (c22 : (List Int) × ((List T41) × Unit) × Unit → Option ((Unit) × ((List Int) × ((List T41) × Unit) × Unit))) (fuel : Nat) (a0 : (List T41)) (a1 : (List Int)) (a2 : Int) : evalBody (Set.E c12 c22) fuel Try.f11 Set.C [ty23, ty24, ty2] [.fresh ty2] (a0, a1, a2, ()) = Set.f c12 c22 fuel a0 a1 a2 :=
  (Set.b_ev c12 c22 fuel a0 a1 a2)

/-! ### Left -/
noncomputable def Left.E (c26 : (List T41) × (List Int) × Int × Unit → Option (List Int × Unit)) : Env := envOf Try.prog (pick [(26, ⟨[ty23, ty24, ty2], [.fresh ty2], c26⟩)]) (pick []) (pick [(3, [(0, none), (1, none), (5, some ty2), (9, none), (10, none)]), (8, [(0, none), (1, none), (5, some ty2), (7, none)])])
noncomputable def Left.C : Code := Try.f12.body.getD .skip
noncomputable def Left.mk3 (a0 : (List T41)) (a1 : Int) (s : (Int × Int × (List Int))) : St := { tmps := slots 29 0 [(0, (.one (.pure ty23 a0))), (1, (.one (.pure ty2 a1))), (5, (.one (.own 0))), (9, (.one (.pure ty2 s.1))), (10, (.one (.pure ty2 s.2.1)))], st := [(0, (.row ty2 s.2.2))], next := 1 }
noncomputable def Left.mk8 (a0 : (List T41)) (a1 : Int) (s : (Int × (List Int))) : St := { tmps := slots 29 0 [(0, (.one (.pure ty23 a0))), (1, (.one (.pure ty2 a1))), (5, (.one (.own 0))), (7, (.one (.pure ty2 s.1)))], st := [(0, (.row ty2 s.2))], next := 1 }
noncomputable def Left.b8 (c26 : (List T41) × (List Int) × Int × Unit → Option (List Int × Unit)) (a0 : (List T41)) (a1 : Int) (k8 : (Int × (List Int)) → Option (List Int × Unit)) (s : (Int × (List Int))) : Option (List Int × Unit) :=
  match s with
  | (x8_2, x8_3) =>
  bif Decidable.decide (x8_2 ≤ if (7 : Int) < a1 then (7 : Int) else a1) then
    (c26 (a0, x8_3, x8_2, ())).bind fun r0 =>
    k8 (Go.IntKind.i64.wrap (x8_2 + (1 : Int)), r0.fst)
  else
    some (x8_3, PUnit.unit)
theorem Left.b8_ev (c26 : (List T41) × (List Int) × Int × Unit → Option (List Int × Unit)) (fuel : Nat) (k8 : St → Option (List Int × Unit)) (a0 : (List T41)) (a1 : Int) (s : (Int × (List Int))) :
    bodyAt (Left.E c26) fuel 8 Left.C (endK (Left.E c26) [.fresh ty2] Try.f12) k8 (Left.mk8 a0 a1 s) =
    Left.b8 c26 a0 a1 (fun t => k8 (Left.mk8 a0 a1 t)) s := by kernel_rfl
noncomputable def Left.l8 (c26 : (List T41) × (List Int) × Int × Unit → Option (List Int × Unit)) (fuel : Nat) (a0 : (List T41)) (a1 : Int) (n : Nat) (s : (Int × (List Int))) : Option (List Int × Unit) :=
  iterN (fun k8 s => Left.b8 c26 a0 a1 k8 s) n s
theorem Left.l8_ev (c26 : (List T41) × (List Int) × Int × Unit → Option (List Int × Unit)) (fuel : Nat) (a0 : (List T41)) (a1 : Int) (n : Nat) (s : (Int × (List Int))) :
    loopAt (Left.E c26) fuel 8 Left.C (endK (Left.E c26) [.fresh ty2] Try.f12) n (Left.mk8 a0 a1 s) = Left.l8 c26 fuel a0 a1 n s :=
  loop_iter (fun k8 s => (Left.b8_ev c26 fuel k8 a0 a1 s)) n s
noncomputable def Left.b3 (c26 : (List T41) × (List Int) × Int × Unit → Option (List Int × Unit)) (a0 : (List T41)) (a1 : Int) (i8 : (Int × (List Int)) → Option (List Int × Unit)) (k3 : (Int × Int × (List Int)) → Option (List Int × Unit)) (s : (Int × Int × (List Int))) : Option (List Int × Unit) :=
  match s with
  | (x3_2, x3_3, x3_4) =>
  bif Decidable.decide (x3_3 < x3_2) then
    bif Decidable.decide ((x3_4.length + (1 : Nat)) * (8 : Nat) ≤ Go.Ev.maxBytes) then
      k3 (x3_2, Go.IntKind.i64.wrap (x3_3 + (1 : Int)), x3_4 ++ [x3_3])
    else
      none
  else
    i8 ((1 : Int), x3_4)
theorem Left.b3_ev (c26 : (List T41) × (List Int) × Int × Unit → Option (List Int × Unit)) (fuel : Nat) (k3 : St → Option (List Int × Unit)) (a0 : (List T41)) (a1 : Int) (s : (Int × Int × (List Int))) :
    bodyAt (Left.E c26) fuel 3 Left.C (endK (Left.E c26) [.fresh ty2] Try.f12) k3 (Left.mk3 a0 a1 s) =
    Left.b3 c26 a0 a1 (fun t => loopAt (Left.E c26) fuel 8 Left.C (endK (Left.E c26) [.fresh ty2] Try.f12) fuel (Left.mk8 a0 a1 t)) (fun t => k3 (Left.mk3 a0 a1 t)) s := by kernel_rfl
noncomputable def Left.l3 (c26 : (List T41) × (List Int) × Int × Unit → Option (List Int × Unit)) (fuel : Nat) (a0 : (List T41)) (a1 : Int) (n : Nat) (s : (Int × Int × (List Int))) : Option (List Int × Unit) :=
  iterN (fun k3 s => Left.b3 c26 a0 a1 (fun t => Left.l8 c26 fuel a0 a1 fuel t) k3 s) n s
theorem Left.l3_ev (c26 : (List T41) × (List Int) × Int × Unit → Option (List Int × Unit)) (fuel : Nat) (a0 : (List T41)) (a1 : Int) (n : Nat) (s : (Int × Int × (List Int))) :
    loopAt (Left.E c26) fuel 3 Left.C (endK (Left.E c26) [.fresh ty2] Try.f12) n (Left.mk3 a0 a1 s) = Left.l3 c26 fuel a0 a1 n s :=
  loop_iter (fun k3 s => (Left.b3_ev c26 fuel k3 a0 a1 s).trans (congrFun (congrFun (congrArg (Left.b3 c26 a0 a1) (funext fun t => Left.l8_ev c26 fuel a0 a1 fuel t)) (fun t => k3 (Left.mk3 a0 a1 t))) s)) n s
noncomputable def Left.b (c26 : (List T41) × (List Int) × Int × Unit → Option (List Int × Unit)) (a0 : (List T41)) (a1 : Int) (i3 : (Int × Int × (List Int)) → Option (List Int × Unit)) : Option (List Int × Unit) :=
  i3 ((↑(List.length a0) : Int), (0 : Int), [])
theorem Left.b_ev (c26 : (List T41) × (List Int) × Int × Unit → Option (List Int × Unit)) (fuel : Nat) (a0 : (List T41)) (a1 : Int) : evalBody (Left.E c26) fuel Try.f12 Left.C [ty23, ty2] [.fresh ty2] (a0, a1, ()) =
    Left.b c26 a0 a1 (fun t => loopAt (Left.E c26) fuel 3 Left.C (endK (Left.E c26) [.fresh ty2] Try.f12) fuel (Left.mk3 a0 a1 t)) := by kernel_rfl
noncomputable def Left.f (c26 : (List T41) × (List Int) × Int × Unit → Option (List Int × Unit)) (fuel : Nat) (a0 : (List T41)) (a1 : Int) : Option (List Int × Unit) := Left.b c26 a0 a1 (fun t => Left.l3 c26 fuel a0 a1 fuel t)
theorem Left.ev (c26 : (List T41) × (List Int) × Int × Unit → Option (List Int × Unit)) (fuel : Nat) (a0 : (List T41)) (a1 : Int) : evalBody (Left.E c26) fuel Try.f12 Left.C [ty23, ty2] [.fresh ty2] (a0, a1, ()) = Left.f c26 fuel a0 a1 :=
  (Left.b_ev c26 fuel a0 a1).trans (congrArg (Left.b c26 a0 a1) (funext fun t => Left.l3_ev c26 fuel a0 a1 fuel t))

/-! ### SameI -/
noncomputable def SameI.E : Env := envOf Try.prog (pick []) (pick []) (pick [(4, [(0, none), (1, none), (5, none)])])
noncomputable def SameI.C : Code := Try.f13.body.getD .skip
noncomputable def SameI.mk4 (a0 : (List Int)) (a1 : (List Int)) (s : Int) : St := { tmps := slots 26 0 [(0, (.one (.pure ty24 a0))), (1, (.one (.pure ty24 a1))), (5, (.one (.pure ty2 s)))], st := [], next := 0 }
noncomputable def SameI.b4 (a0 : (List Int)) (a1 : (List Int)) (k4 : Int → Option (Bool × Unit)) (s : Int) : Option (Bool × Unit) :=
  match s with
  | x4_2 =>
  bif Decidable.decide (x4_2 < (↑(List.length a0) : Int)) then
    bif Decidable.decide ((0 : Int) ≤ x4_2) && Decidable.decide (x4_2 < (↑(List.length a0) : Int)) then
      bif Decidable.decide ((0 : Int) ≤ x4_2) && Decidable.decide (x4_2 < (↑(List.length a1) : Int)) then
        bif List.getD a0 x4_2.toNat (0 : Int) != List.getD a1 x4_2.toNat (0 : Int) then
          some (Bool.false, PUnit.unit)
        else
          k4 (Go.IntKind.i64.wrap (x4_2 + (1 : Int)))
      else
        none
    else
      none
  else
    some (Bool.true, PUnit.unit)
theorem SameI.b4_ev (fuel : Nat) (k4 : St → Option (Bool × Unit)) (a0 : (List Int)) (a1 : (List Int)) (s : Int) :
    bodyAt (SameI.E) fuel 4 SameI.C (endK (SameI.E) [.pure ty4] Try.f13) k4 (SameI.mk4 a0 a1 s) =
    SameI.b4 a0 a1 (fun t => k4 (SameI.mk4 a0 a1 t)) s := by kernel_rfl
noncomputable def SameI.l4 (fuel : Nat) (a0 : (List Int)) (a1 : (List Int)) (n : Nat) (s : Int) : Option (Bool × Unit) :=
  iterN (fun k4 s => SameI.b4 a0 a1 k4 s) n s
theorem SameI.l4_ev (fuel : Nat) (a0 : (List Int)) (a1 : (List Int)) (n : Nat) (s : Int) :
    loopAt (SameI.E) fuel 4 SameI.C (endK (SameI.E) [.pure ty4] Try.f13) n (SameI.mk4 a0 a1 s) = SameI.l4 fuel a0 a1 n s :=
  loop_iter (fun k4 s => (SameI.b4_ev fuel k4 a0 a1 s)) n s
noncomputable def SameI.b (a0 : (List Int)) (a1 : (List Int)) (i4 : Int → Option (Bool × Unit)) : Option (Bool × Unit) :=
  bif (↑(List.length a0) : Int) != (↑(List.length a1) : Int) then
    some (Bool.false, PUnit.unit)
  else
    i4 ((0 : Int))
theorem SameI.b_ev (fuel : Nat) (a0 : (List Int)) (a1 : (List Int)) : evalBody (SameI.E) fuel Try.f13 SameI.C [ty24, ty24] [.pure ty4] (a0, a1, ()) =
    SameI.b a0 a1 (fun t => loopAt (SameI.E) fuel 4 SameI.C (endK (SameI.E) [.pure ty4] Try.f13) fuel (SameI.mk4 a0 a1 t)) := by kernel_rfl
noncomputable def SameI.f (fuel : Nat) (a0 : (List Int)) (a1 : (List Int)) : Option (Bool × Unit) := SameI.b a0 a1 (fun t => SameI.l4 fuel a0 a1 fuel t)
theorem SameI.ev (fuel : Nat) (a0 : (List Int)) (a1 : (List Int)) : evalBody (SameI.E) fuel Try.f13 SameI.C [ty24, ty24] [.pure ty4] (a0, a1, ()) = SameI.f fuel a0 a1 :=
  (SameI.b_ev fuel a0 a1).trans (congrArg (SameI.b a0 a1) (funext fun t => SameI.l4_ev fuel a0 a1 fuel t))

/-! ### known -/
noncomputable def known.E (c16 : (List T41) × (List Int) × Int × Unit → Option (List T44 × Unit)) (c15 : (List T44) × (List T44) × Unit → Option (Bool × Unit)) (c11 : (List T41) × (List Int) × Int × Unit → Option (List Int × Unit)) : Env := envOf Try.prog (pick [(16, ⟨[ty23, ty24, ty2], [.fresh ty44], c16⟩), (15, ⟨[ty46, ty46], [.pure ty4], c15⟩), (11, ⟨[ty23, ty24, ty2], [.fresh ty2], c11⟩)]) (pick []) (pick [])
noncomputable def known.C : Code := Try.f14.body.getD .skip
noncomputable def known.b (c16 : (List T41) × (List Int) × Int × Unit → Option (List T44 × Unit)) (c15 : (List T44) × (List T44) × Unit → Option (Bool × Unit)) (c11 : (List T41) × (List Int) × Int × Unit → Option (List Int × Unit)) : Option (Bool × Unit) :=
  (c16 (List.replicate (3 : Nat) BE.ty41.dflt, [(5 : Int), (5 : Int), (2 : Int)], (8 : Int), ())).bind fun r0 =>
  (c15 (r0.fst, [((2 : Int), (6 : Int)), ((5 : Int), (10 : Int))], ())).bind fun r1 =>
  bif r1.fst then
    (c11 (List.replicate (3 : Nat) BE.ty41.dflt, [(1 : Int)], (8 : Int), ())).bind fun r2 =>
    some ((↑(List.length r2.fst) : Int) == (0 : Int), PUnit.unit)
  else
    some (Bool.false, PUnit.unit)
theorem known.b_ev (c16 : (List T41) × (List Int) × Int × Unit → Option (List T44 × Unit)) (c15 : (List T44) × (List T44) × Unit → Option (Bool × Unit)) (c11 : (List T41) × (List Int) × Int × Unit → Option (List Int × Unit)) (fuel : Nat) : evalBody (known.E c16 c15 c11) fuel Try.f14 known.C [] [.pure ty4] (()) =
    known.b c16 c15 c11 := by kernel_rfl
noncomputable def known.f (c16 : (List T41) × (List Int) × Int × Unit → Option (List T44 × Unit)) (c15 : (List T44) × (List T44) × Unit → Option (Bool × Unit)) (c11 : (List T41) × (List Int) × Int × Unit → Option (List Int × Unit)) (fuel : Nat) : Option (Bool × Unit) := known.b c16 c15 c11
theorem known.ev (c16 : (List T41) × (List Int) × Int × Unit → Option (List T44 × Unit)) (c15 : (List T44) × (List T44) × Unit → Option (Bool × Unit)) (c11 : (List T41) × (List Int) × Int × Unit → Option (List Int × Unit)) (fuel : Nat) : evalBody (known.E c16 c15 c11) fuel Try.f14 known.C [] [.pure ty4] (()) = known.f c16 c15 c11 fuel :=
  (known.b_ev c16 c15 c11 fuel)

/-! ### SameH -/
noncomputable def SameH.E : Env := envOf Try.prog (pick []) (pick []) (pick [(4, [(0, none), (1, none), (5, none)])])
noncomputable def SameH.C : Code := Try.f15.body.getD .skip
noncomputable def SameH.mk4 (a0 : (List T44)) (a1 : (List T44)) (s : Int) : St := { tmps := slots 26 0 [(0, (.one (.pure ty46 a0))), (1, (.one (.pure ty46 a1))), (5, (.one (.pure ty2 s)))], st := [], next := 0 }
noncomputable def SameH.b4 (a0 : (List T44)) (a1 : (List T44)) (k4 : Int → Option (Bool × Unit)) (s : Int) : Option (Bool × Unit) :=
  match s with
  | x4_2 =>
  bif Decidable.decide (x4_2 < (↑(List.length a0) : Int)) then
    bif Decidable.decide ((0 : Int) ≤ x4_2) && Decidable.decide (x4_2 < (↑(List.length a0) : Int)) then
      bif Decidable.decide ((0 : Int) ≤ x4_2) && Decidable.decide (x4_2 < (↑(List.length a1) : Int)) then
        bif !((List.getD a0 x4_2.toNat BE.ty44.dflt).fst == (List.getD a1 x4_2.toNat BE.ty44.dflt).fst && (List.getD a0 x4_2.toNat BE.ty44.dflt).snd == (List.getD a1 x4_2.toNat BE.ty44.dflt).snd) then
          some (Bool.false, PUnit.unit)
        else
          k4 (Go.IntKind.i64.wrap (x4_2 + (1 : Int)))
      else
        none
    else
      none
  else
    some (Bool.true, PUnit.unit)
theorem SameH.b4_ev (fuel : Nat) (k4 : St → Option (Bool × Unit)) (a0 : (List T44)) (a1 : (List T44)) (s : Int) :
    bodyAt (SameH.E) fuel 4 SameH.C (endK (SameH.E) [.pure ty4] Try.f15) k4 (SameH.mk4 a0 a1 s) =
    SameH.b4 a0 a1 (fun t => k4 (SameH.mk4 a0 a1 t)) s := by kernel_rfl
noncomputable def SameH.l4 (fuel : Nat) (a0 : (List T44)) (a1 : (List T44)) (n : Nat) (s : Int) : Option (Bool × Unit) :=
  iterN (fun k4 s => SameH.b4 a0 a1 k4 s) n s
theorem SameH.l4_ev (fuel : Nat) (a0 : (List T44)) (a1 : (List T44)) (n : Nat) (s : Int) :
    loopAt (SameH.E) fuel 4 SameH.C (endK (SameH.E) [.pure ty4] Try.f15) n (SameH.mk4 a0 a1 s) = SameH.l4 fuel a0 a1 n s :=
  loop_iter (fun k4 s => (SameH.b4_ev fuel k4 a0 a1 s)) n s
noncomputable def SameH.b (a0 : (List T44)) (a1 : (List T44)) (i4 : Int → Option (Bool × Unit)) : Option (Bool × Unit) :=
  bif (↑(List.length a0) : Int) != (↑(List.length a1) : Int) then
    some (Bool.false, PUnit.unit)
  else
    i4 ((0 : Int))
theorem SameH.b_ev (fuel : Nat) (a0 : (List T44)) (a1 : (List T44)) : evalBody (SameH.E) fuel Try.f15 SameH.C [ty46, ty46] [.pure ty4] (a0, a1, ()) =
    SameH.b a0 a1 (fun t => loopAt (SameH.E) fuel 4 SameH.C (endK (SameH.E) [.pure ty4] Try.f15) fuel (SameH.mk4 a0 a1 t)) := by kernel_rfl
noncomputable def SameH.f (fuel : Nat) (a0 : (List T44)) (a1 : (List T44)) : Option (Bool × Unit) := SameH.b a0 a1 (fun t => SameH.l4 fuel a0 a1 fuel t)
theorem SameH.ev (fuel : Nat) (a0 : (List T44)) (a1 : (List T44)) : evalBody (SameH.E) fuel Try.f15 SameH.C [ty46, ty46] [.pure ty4] (a0, a1, ()) = SameH.f fuel a0 a1 :=
  (SameH.b_ev fuel a0 a1).trans (congrArg (SameH.b a0 a1) (funext fun t => SameH.l4_ev fuel a0 a1 fuel t))

/-! ### Hops -/
noncomputable def Hops.E (c11 : (List T41) × (List Int) × Int × Unit → Option (List Int × Unit)) (c29 : (List Nat) × Int × Unit → Option (List Int × Unit)) : Env := envOf Try.prog (pick [(11, ⟨[ty23, ty24, ty2], [.fresh ty2], c11⟩), (29, ⟨[ty65, ty2], [.fresh ty2], c29⟩)]) (pick [(28, Go.Ev.keysExt 39), (27, Go.Ev.sortedExt 39 .f64)]) (pick [(3, [(1, none), (7, none), (21, none), (22, none), (23, none)]), (10, [(7, none), (10, none), (11, some ty40), (38, none), (39, none), (40, none)]), (16, [(10, none), (14, some ty44), (52, none), (53, none), (54, none)])])
noncomputable def Hops.C : Code := Try.f16.body.getD .skip
noncomputable def Hops.mk3 (a0 : (List T41)) (a1 : (List Int)) (a2 : Int) (s : (Int × Int × (List (Nat × (Int × Nat))) × Nat × (List Int))) : St := { tmps := slots 72 0 [(1, (.one (.pure ty24 a1))), (7, (.one (.own 0))), (21, (.one (.own 1))), (22, (.one (.pure ty2 s.1))), (23, (.one (.pure ty2 s.2.1)))], st := [(0, (.map ty2 ty40 s.2.2.1 s.2.2.2.1)), (1, (.row ty2 s.2.2.2.2))], next := 2 }
noncomputable def Hops.mk10 (a0 : (List T41)) (a1 : (List Int)) (a2 : Int) (x3_3 : (List (Nat × (Int × Nat)))) (x3_4 : Nat) (r1 : (List Int)) (s : (Int × Int × (List Nat))) : St := { tmps := slots 72 0 [(7, (.one (.own 0))), (10, (.one (.own 1))), (11, (.one (.own 2))), (38, (.one (.own 1))), (39, (.one (.pure ty2 s.1))), (40, (.one (.pure ty2 s.2.1)))], st := [(0, (.map ty2 ty40 x3_3 x3_4)), (1, (.row ty2 r1)), (2, (.row ty40 s.2.2))], next := 3 }
noncomputable def Hops.mk16 (a0 : (List T41)) (a1 : (List Int)) (a2 : Int) (r1 : (List Int)) (s : (Int × Int × (List T44) × (List Int))) : St := { tmps := slots 72 0 [(10, (.one (.own 0))), (14, (.one (.own 1))), (52, (.one (.own 2))), (53, (.one (.pure ty2 s.1))), (54, (.one (.pure ty2 s.2.1)))], st := [(0, (.row ty2 r1)), (1, (.row ty44 s.2.2.1)), (2, (.row ty2 s.2.2.2))], next := 3 }
noncomputable def Hops.b16 (c11 : (List T41) × (List Int) × Int × Unit → Option (List Int × Unit)) (c29 : (List Nat) × Int × Unit → Option (List Int × Unit)) (a0 : (List T41)) (a1 : (List Int)) (a2 : Int) (r1 : (List Int)) (k16 : (Int × Int × (List T44) × (List Int)) → Option (List T44 × Unit)) (s : (Int × Int × (List T44) × (List Int))) : Option (List T44 × Unit) :=
  match s with
  | (x16_0, x16_1, x16_3, x16_4) =>
  bif Decidable.decide (x16_1 < x16_0) then
    bif Decidable.decide ((0 : Int) ≤ x16_1) && Decidable.decide (x16_1 < (↑x16_4.length : Int)) then
      bif Decidable.decide (x16_4.getD x16_1.toNat (0 : Int) > (0 : Int)) then
        bif Decidable.decide ((0 : Int) ≤ x16_1) && Decidable.decide (x16_1 < (↑r1.length : Int)) then
          bif Decidable.decide ((x16_3.length + (1 : Nat)) * (16 : Nat) ≤ Go.Ev.maxBytes) then
            k16 (x16_0, Go.IntKind.i64.wrap (x16_1 + (1 : Int)), x16_3 ++ [(r1.getD x16_1.toNat (0 : Int), x16_4.getD x16_1.toNat (0 : Int))], x16_4)
          else
            none
        else
          none
      else
        k16 (x16_0, Go.IntKind.i64.wrap (x16_1 + (1 : Int)), x16_3, x16_4)
    else
      none
  else
    some (x16_3, PUnit.unit)
theorem Hops.b16_ev (c11 : (List T41) × (List Int) × Int × Unit → Option (List Int × Unit)) (c29 : (List Nat) × Int × Unit → Option (List Int × Unit)) (fuel : Nat) (k16 : St → Option (List T44 × Unit)) (a0 : (List T41)) (a1 : (List Int)) (a2 : Int) (r1 : (List Int)) (s : (Int × Int × (List T44) × (List Int))) :
    bodyAt (Hops.E c11 c29) fuel 16 Hops.C (endK (Hops.E c11 c29) [.fresh ty44] Try.f16) k16 (Hops.mk16 a0 a1 a2 r1 s) =
    Hops.b16 c11 c29 a0 a1 a2 r1 (fun t => k16 (Hops.mk16 a0 a1 a2 r1 t)) s := by kernel_rfl
noncomputable def Hops.l16 (c11 : (List T41) × (List Int) × Int × Unit → Option (List Int × Unit)) (c29 : (List Nat) × Int × Unit → Option (List Int × Unit)) (fuel : Nat) (a0 : (List T41)) (a1 : (List Int)) (a2 : Int) (r1 : (List Int)) (n : Nat) (s : (Int × Int × (List T44) × (List Int))) : Option (List T44 × Unit) :=
  iterN (fun k16 s => Hops.b16 c11 c29 a0 a1 a2 r1 k16 s) n s
theorem Hops.l16_ev (c11 : (List T41) × (List Int) × Int × Unit → Option (List Int × Unit)) (c29 : (List Nat) × Int × Unit → Option (List Int × Unit)) (fuel : Nat) (a0 : (List T41)) (a1 : (List Int)) (a2 : Int) (r1 : (List Int)) (n : Nat) (s : (Int × Int × (List T44) × (List Int))) :
    loopAt (Hops.E c11 c29) fuel 16 Hops.C (endK (Hops.E c11 c29) [.fresh ty44] Try.f16) n (Hops.mk16 a0 a1 a2 r1 s) = Hops.l16 c11 c29 fuel a0 a1 a2 r1 n s :=
  loop_iter (fun k16 s => (Hops.b16_ev c11 c29 fuel k16 a0 a1 a2 r1 s)) n s
noncomputable def Hops.b10 (c11 : (List T41) × (List Int) × Int × Unit → Option (List Int × Unit)) (c29 : (List Nat) × Int × Unit → Option (List Int × Unit)) (a0 : (List T41)) (a1 : (List Int)) (a2 : Int) (x3_3 : (List (Nat × (Int × Nat)))) (x3_4 : Nat) (r1 : (List Int)) (i16 : (List Int) → (Int × Int × (List T44) × (List Int)) → Option (List T44 × Unit)) (k10 : (Int × Int × (List Nat)) → Option (List T44 × Unit)) (s : (Int × Int × (List Nat))) : Option (List T44 × Unit) :=
  match s with
  | (x10_0, x10_1, x10_5) =>
  bif Decidable.decide (x10_1 < x10_0) then
    bif Decidable.decide ((0 : Int) ≤ x10_1) && Decidable.decide (x10_1 < (↑r1.length : Int)) then
      bif Decidable.decide ((x10_5.length + (1 : Nat)) * (8 : Nat) ≤ Go.Ev.maxBytes) then
        k10 (x10_0, Go.IntKind.i64.wrap (x10_1 + (1 : Int)), x10_5 ++ [(Go.Ev.mapGet (Go.Ev.keyEq BE.ty2) (r1.getD x10_1.toNat (0 : Int)) x3_3).getD (0 : Nat)])
      else
        none
    else
      none
  else
    (c29 (x10_5, (16 : Int), ())).bind fun r2 =>
    i16 r1 ((↑(List.length r2.fst) : Int), (0 : Int), [], r2.fst)
theorem Hops.b10_ev (c11 : (List T41) × (List Int) × Int × Unit → Option (List Int × Unit)) (c29 : (List Nat) × Int × Unit → Option (List Int × Unit)) (fuel : Nat) (k10 : St → Option (List T44 × Unit)) (a0 : (List T41)) (a1 : (List Int)) (a2 : Int) (x3_3 : (List (Nat × (Int × Nat)))) (x3_4 : Nat) (r1 : (List Int)) (s : (Int × Int × (List Nat))) :
    bodyAt (Hops.E c11 c29) fuel 10 Hops.C (endK (Hops.E c11 c29) [.fresh ty44] Try.f16) k10 (Hops.mk10 a0 a1 a2 x3_3 x3_4 r1 s) =
    Hops.b10 c11 c29 a0 a1 a2 x3_3 x3_4 r1 (fun r1 t => loopAt (Hops.E c11 c29) fuel 16 Hops.C (endK (Hops.E c11 c29) [.fresh ty44] Try.f16) fuel (Hops.mk16 a0 a1 a2 r1 t)) (fun t => k10 (Hops.mk10 a0 a1 a2 x3_3 x3_4 r1 t)) s := by kernel_rfl
noncomputable def Hops.l10 (c11 : (List T41) × (List Int) × Int × Unit → Option (List Int × Unit)) (c29 : (List Nat) × Int × Unit → Option (List Int × Unit)) (fuel : Nat) (a0 : (List T41)) (a1 : (List Int)) (a2 : Int) (x3_3 : (List (Nat × (Int × Nat)))) (x3_4 : Nat) (r1 : (List Int)) (n : Nat) (s : (Int × Int × (List Nat))) : Option (List T44 × Unit) :=
  iterN (fun k10 s => Hops.b10 c11 c29 a0 a1 a2 x3_3 x3_4 r1 (fun r1 t => Hops.l16 c11 c29 fuel a0 a1 a2 r1 fuel t) k10 s) n s
theorem Hops.l10_ev (c11 : (List T41) × (List Int) × Int × Unit → Option (List Int × Unit)) (c29 : (List Nat) × Int × Unit → Option (List Int × Unit)) (fuel : Nat) (a0 : (List T41)) (a1 : (List Int)) (a2 : Int) (x3_3 : (List (Nat × (Int × Nat)))) (x3_4 : Nat) (r1 : (List Int)) (n : Nat) (s : (Int × Int × (List Nat))) :
    loopAt (Hops.E c11 c29) fuel 10 Hops.C (endK (Hops.E c11 c29) [.fresh ty44] Try.f16) n (Hops.mk10 a0 a1 a2 x3_3 x3_4 r1 s) = Hops.l10 c11 c29 fuel a0 a1 a2 x3_3 x3_4 r1 n s :=
  loop_iter (fun k10 s => (Hops.b10_ev c11 c29 fuel k10 a0 a1 a2 x3_3 x3_4 r1 s).trans (congrFun (congrFun (congrArg (Hops.b10 c11 c29 a0 a1 a2 x3_3 x3_4 r1) (funext fun r1 => funext fun t => Hops.l16_ev c11 c29 fuel a0 a1 a2 r1 fuel t)) (fun t => k10 (Hops.mk10 a0 a1 a2 x3_3 x3_4 r1 t))) s)) n s
noncomputable def Hops.b3 (c11 : (List T41) × (List Int) × Int × Unit → Option (List Int × Unit)) (c29 : (List Nat) × Int × Unit → Option (List Int × Unit)) (a0 : (List T41)) (a1 : (List Int)) (a2 : Int) (i10 : (List (Nat × (Int × Nat))) → Nat → (List Int) → (Int × Int × (List Nat)) → Option (List T44 × Unit)) (k3 : (Int × Int × (List (Nat × (Int × Nat))) × Nat × (List Int)) → Option (List T44 × Unit)) (s : (Int × Int × (List (Nat × (Int × Nat))) × Nat × (List Int))) : Option (List T44 × Unit) :=
  match s with
  | (x3_1, x3_2, x3_3, x3_4, x3_5) =>
  bif Decidable.decide (x3_2 < x3_1) then
    bif Decidable.decide ((0 : Int) ≤ x3_2) && Decidable.decide (x3_2 < (↑x3_5.length : Int)) then
      bif Decidable.decide ((0 : Int) ≤ x3_5.getD x3_2.toNat (0 : Int)) && Decidable.decide (x3_5.getD x3_2.toNat (0 : Int) < (↑(List.length a1) : Int)) then
        bif (Go.FloatKind.f64.format.add ((Go.Ev.mapGet (Go.Ev.keyEq BE.ty2) (List.getD a1 (Int.toNat (x3_5.getD x3_2.toNat (0 : Int))) (0 : Int)) x3_3).getD (0 : Nat)) (4607182418800017408 : Nat)).isSome then
          k3 (x3_1, Go.IntKind.i64.wrap (x3_2 + (1 : Int)), Go.Ev.mapPut (Go.Ev.keyEq BE.ty2) (List.getD a1 (Int.toNat (x3_5.getD x3_2.toNat (0 : Int))) (0 : Int)) ((Go.FloatKind.f64.format.add ((Go.Ev.mapGet (Go.Ev.keyEq BE.ty2) (List.getD a1 (Int.toNat (x3_5.getD x3_2.toNat (0 : Int))) (0 : Int)) x3_3).getD (0 : Nat)) (4607182418800017408 : Nat)).getD (0 : Nat)) x3_3 x3_4, Go.Ev.mapNext (Go.Ev.keyEq BE.ty2) (List.getD a1 (Int.toNat (x3_5.getD x3_2.toNat (0 : Int))) (0 : Int)) x3_3 x3_4, x3_5)
        else
          none
      else
        none
    else
      none
  else
    (Go.Ev.sortedKeys x3_3 x3_4).bind fun r1 =>
    i10 x3_3 x3_4 r1 ((↑r1.length : Int), (0 : Int), [])
theorem Hops.b3_ev (c11 : (List T41) × (List Int) × Int × Unit → Option (List Int × Unit)) (c29 : (List Nat) × Int × Unit → Option (List Int × Unit)) (fuel : Nat) (k3 : St → Option (List T44 × Unit)) (a0 : (List T41)) (a1 : (List Int)) (a2 : Int) (s : (Int × Int × (List (Nat × (Int × Nat))) × Nat × (List Int))) :
    bodyAt (Hops.E c11 c29) fuel 3 Hops.C (endK (Hops.E c11 c29) [.fresh ty44] Try.f16) k3 (Hops.mk3 a0 a1 a2 s) =
    Hops.b3 c11 c29 a0 a1 a2 (fun x3_3 x3_4 r1 t => loopAt (Hops.E c11 c29) fuel 10 Hops.C (endK (Hops.E c11 c29) [.fresh ty44] Try.f16) fuel (Hops.mk10 a0 a1 a2 x3_3 x3_4 r1 t)) (fun t => k3 (Hops.mk3 a0 a1 a2 t)) s := by kernel_rfl
noncomputable def Hops.l3 (c11 : (List T41) × (List Int) × Int × Unit → Option (List Int × Unit)) (c29 : (List Nat) × Int × Unit → Option (List Int × Unit)) (fuel : Nat) (a0 : (List T41)) (a1 : (List Int)) (a2 : Int) (n : Nat) (s : (Int × Int × (List (Nat × (Int × Nat))) × Nat × (List Int))) : Option (List T44 × Unit) :=
  iterN (fun k3 s => Hops.b3 c11 c29 a0 a1 a2 (fun x3_3 x3_4 r1 t => Hops.l10 c11 c29 fuel a0 a1 a2 x3_3 x3_4 r1 fuel t) k3 s) n s
theorem Hops.l3_ev (c11 : (List T41) × (List Int) × Int × Unit → Option (List Int × Unit)) (c29 : (List Nat) × Int × Unit → Option (List Int × Unit)) (fuel : Nat) (a0 : (List T41)) (a1 : (List Int)) (a2 : Int) (n : Nat) (s : (Int × Int × (List (Nat × (Int × Nat))) × Nat × (List Int))) :
    loopAt (Hops.E c11 c29) fuel 3 Hops.C (endK (Hops.E c11 c29) [.fresh ty44] Try.f16) n (Hops.mk3 a0 a1 a2 s) = Hops.l3 c11 c29 fuel a0 a1 a2 n s :=
  loop_iter (fun k3 s => (Hops.b3_ev c11 c29 fuel k3 a0 a1 a2 s).trans (congrFun (congrFun (congrArg (Hops.b3 c11 c29 a0 a1 a2) (funext fun x3_3 => funext fun x3_4 => funext fun r1 => funext fun t => Hops.l10_ev c11 c29 fuel a0 a1 a2 x3_3 x3_4 r1 fuel t)) (fun t => k3 (Hops.mk3 a0 a1 a2 t))) s)) n s
noncomputable def Hops.b (c11 : (List T41) × (List Int) × Int × Unit → Option (List Int × Unit)) (c29 : (List Nat) × Int × Unit → Option (List Int × Unit)) (a0 : (List T41)) (a1 : (List Int)) (a2 : Int) (i3 : (Int × Int × (List (Nat × (Int × Nat))) × Nat × (List Int)) → Option (List T44 × Unit)) : Option (List T44 × Unit) :=
  (c11 (a0, a1, a2, ())).bind fun r0 =>
  i3 ((↑(List.length r0.fst) : Int), (0 : Int), [], (0 : Nat), r0.fst)
theorem Hops.b_ev (c11 : (List T41) × (List Int) × Int × Unit → Option (List Int × Unit)) (c29 : (List Nat) × Int × Unit → Option (List Int × Unit)) (fuel : Nat) (a0 : (List T41)) (a1 : (List Int)) (a2 : Int) : evalBody (Hops.E c11 c29) fuel Try.f16 Hops.C [ty23, ty24, ty2] [.fresh ty44] (a0, a1, a2, ()) =
    Hops.b c11 c29 a0 a1 a2 (fun t => loopAt (Hops.E c11 c29) fuel 3 Hops.C (endK (Hops.E c11 c29) [.fresh ty44] Try.f16) fuel (Hops.mk3 a0 a1 a2 t)) := by kernel_rfl
noncomputable def Hops.f (c11 : (List T41) × (List Int) × Int × Unit → Option (List Int × Unit)) (c29 : (List Nat) × Int × Unit → Option (List Int × Unit)) (fuel : Nat) (a0 : (List T41)) (a1 : (List Int)) (a2 : Int) : Option (List T44 × Unit) := Hops.b c11 c29 a0 a1 a2 (fun t => Hops.l3 c11 c29 fuel a0 a1 a2 fuel t)
theorem Hops.ev (c11 : (List T41) × (List Int) × Int × Unit → Option (List Int × Unit)) (c29 : (List Nat) × Int × Unit → Option (List Int × Unit)) (fuel : Nat) (a0 : (List T41)) (a1 : (List Int)) (a2 : Int) : evalBody (Hops.E c11 c29) fuel Try.f16 Hops.C [ty23, ty24, ty2] [.fresh ty44] (a0, a1, a2, ()) = Hops.f c11 c29 fuel a0 a1 a2 :=
  (Hops.b_ev c11 c29 fuel a0 a1 a2).trans (congrArg (Hops.b c11 c29 a0 a1 a2) (funext fun t => Hops.l3_ev c11 c29 fuel a0 a1 a2 fuel t))

/-! ### Best -/
noncomputable def Best.E (c12 : (List T41) × Int × Unit → Option (List Int × Unit)) : Env := envOf Try.prog (pick [(12, ⟨[ty23, ty2], [.fresh ty2], c12⟩)]) (pick []) (pick [])
noncomputable def Best.C : Code := Try.f17.body.getD .skip
noncomputable def Best.b (c12 : (List T41) × Int × Unit → Option (List Int × Unit)) (a0 : (List T41)) : Option (Int × Bool × Unit) :=
  bif (↑(List.length a0) : Int) == (0 : Int) then
    some ((0 : Int), (Bool.false, PUnit.unit))
  else
    (c12 (a0, (7 : Int), ())).bind fun r0 =>
    bif Decidable.decide ((0 : Int) < (↑(List.length r0.fst) : Int)) then
      some (List.getD r0.fst (0 : Nat) (0 : Int), (Bool.true, PUnit.unit))
    else
      none
theorem Best.b_ev (c12 : (List T41) × Int × Unit → Option (List Int × Unit)) (fuel : Nat) (a0 : (List T41)) : evalBody (Best.E c12) fuel Try.f17 Best.C [ty23] [.pure ty2, .pure ty4] (a0, ()) =
    Best.b c12 a0 := by kernel_rfl
noncomputable def Best.f (c12 : (List T41) × Int × Unit → Option (List Int × Unit)) (fuel : Nat) (a0 : (List T41)) : Option (Int × Bool × Unit) := Best.b c12 a0
theorem Best.ev (c12 : (List T41) × Int × Unit → Option (List Int × Unit)) (fuel : Nat) (a0 : (List T41)) : evalBody (Best.E c12) fuel Try.f17 Best.C [ty23] [.pure ty2, .pure ty4] (a0, ()) = Best.f c12 fuel a0 :=
  (Best.b_ev c12 fuel a0)

/-! ### same -/
noncomputable def same.E (c11 : (List T41) × (List Int) × Int × Unit → Option (List Int × Unit)) (c31 : (List T41) × Unit → Option (List T41 × Unit)) (c30 : (List T41) × (List Int) × Int × Unit → Option (List Int × Unit)) (c13 : (List Int) × (List Int) × Unit → Option (Bool × Unit)) (c16 : (List T41) × (List Int) × Int × Unit → Option (List T44 × Unit)) (c32 : (List T41) × (List Int) × Int × Unit → Option (List T44 × Unit)) (c15 : (List T44) × (List T44) × Unit → Option (Bool × Unit)) : Env := envOf Try.prog (pick [(11, ⟨[ty23, ty24, ty2], [.fresh ty2], c11⟩), (31, ⟨[ty23], [.fresh ty41], c31⟩), (30, ⟨[ty23, ty24, ty2], [.fresh ty2], c30⟩), (13, ⟨[ty24, ty24], [.pure ty4], c13⟩), (16, ⟨[ty23, ty24, ty2], [.fresh ty44], c16⟩), (32, ⟨[ty23, ty24, ty2], [.fresh ty44], c32⟩), (15, ⟨[ty46, ty46], [.pure ty4], c15⟩)]) (pick []) (pick [])
noncomputable def same.C : Code := Try.f18.body.getD .skip
noncomputable def same.b (c11 : (List T41) × (List Int) × Int × Unit → Option (List Int × Unit)) (c31 : (List T41) × Unit → Option (List T41 × Unit)) (c30 : (List T41) × (List Int) × Int × Unit → Option (List Int × Unit)) (c13 : (List Int) × (List Int) × Unit → Option (Bool × Unit)) (c16 : (List T41) × (List Int) × Int × Unit → Option (List T44 × Unit)) (c32 : (List T41) × (List Int) × Int × Unit → Option (List T44 × Unit)) (c15 : (List T44) × (List T44) × Unit → Option (Bool × Unit)) (a0 : (List T41)) (a1 : (List Int)) (a2 : Int) : Option (Bool × Unit) :=
  (c11 (a0, a1, a2, ())).bind fun r0 =>
  (c31 (a0, ())).bind fun r1 =>
  (c30 (r1.fst, a1, a2, ())).bind fun r2 =>
  (c13 (r0.fst, r2.fst, ())).bind fun r3 =>
  bif r3.fst then
    (c16 (a0, a1, a2, ())).bind fun r4 =>
    (c31 (a0, ())).bind fun r5 =>
    (c32 (r5.fst, a1, a2, ())).bind fun r6 =>
    (c15 (r4.fst, r6.fst, ())).bind fun r7 =>
    some (r7.fst, PUnit.unit)
  else
    some (Bool.false, PUnit.unit)
theorem same.b_ev (c11 : (List T41) × (List Int) × Int × Unit → Option (List Int × Unit)) (c31 : (List T41) × Unit → Option (List T41 × Unit)) (c30 : (List T41) × (List Int) × Int × Unit → Option (List Int × Unit)) (c13 : (List Int) × (List Int) × Unit → Option (Bool × Unit)) (c16 : (List T41) × (List Int) × Int × Unit → Option (List T44 × Unit)) (c32 : (List T41) × (List Int) × Int × Unit → Option (List T44 × Unit)) (c15 : (List T44) × (List T44) × Unit → Option (Bool × Unit)) (fuel : Nat) (a0 : (List T41)) (a1 : (List Int)) (a2 : Int) : evalBody (same.E c11 c31 c30 c13 c16 c32 c15) fuel Try.f18 same.C [ty23, ty24, ty2] [.pure ty4] (a0, a1, a2, ()) =
    same.b c11 c31 c30 c13 c16 c32 c15 a0 a1 a2 := by kernel_rfl
noncomputable def same.f (c11 : (List T41) × (List Int) × Int × Unit → Option (List Int × Unit)) (c31 : (List T41) × Unit → Option (List T41 × Unit)) (c30 : (List T41) × (List Int) × Int × Unit → Option (List Int × Unit)) (c13 : (List Int) × (List Int) × Unit → Option (Bool × Unit)) (c16 : (List T41) × (List Int) × Int × Unit → Option (List T44 × Unit)) (c32 : (List T41) × (List Int) × Int × Unit → Option (List T44 × Unit)) (c15 : (List T44) × (List T44) × Unit → Option (Bool × Unit)) (fuel : Nat) (a0 : (List T41)) (a1 : (List Int)) (a2 : Int) : Option (Bool × Unit) := same.b c11 c31 c30 c13 c16 c32 c15 a0 a1 a2
theorem same.ev (c11 : (List T41) × (List Int) × Int × Unit → Option (List Int × Unit)) (c31 : (List T41) × Unit → Option (List T41 × Unit)) (c30 : (List T41) × (List Int) × Int × Unit → Option (List Int × Unit)) (c13 : (List Int) × (List Int) × Unit → Option (Bool × Unit)) (c16 : (List T41) × (List Int) × Int × Unit → Option (List T44 × Unit)) (c32 : (List T41) × (List Int) × Int × Unit → Option (List T44 × Unit)) (c15 : (List T44) × (List T44) × Unit → Option (Bool × Unit)) (fuel : Nat) (a0 : (List T41)) (a1 : (List Int)) (a2 : Int) : evalBody (same.E c11 c31 c30 c13 c16 c32 c15) fuel Try.f18 same.C [ty23, ty24, ty2] [.pure ty4] (a0, a1, a2, ()) = same.f c11 c31 c30 c13 c16 c32 c15 fuel a0 a1 a2 :=
  (same.b_ev c11 c31 c30 c13 c16 c32 c15 fuel a0 a1 a2)

/-! ### eSame -/
noncomputable def eSame.E (c33 : (List T44) × (List T44) × Unit → Option (Bool × Unit)) : Env := envOf Try.prog (pick [(33, ⟨[ty46, ty46], [.pure ty4], c33⟩)]) (pick []) (pick [])
noncomputable def eSame.C : Code := Try.f19.body.getD .skip
noncomputable def eSame.b (c33 : (List T44) × (List T44) × Unit → Option (Bool × Unit)) (a0 : (List T44)) (a1 : (List T44)) : Option (Bool × Unit) :=
  (c33 (a0, a1, ())).bind fun r0 =>
  some (r0.fst, PUnit.unit)
theorem eSame.b_ev (c33 : (List T44) × (List T44) × Unit → Option (Bool × Unit)) (fuel : Nat) (a0 : (List T44)) (a1 : (List T44)) : evalBody (eSame.E c33) fuel Try.f19 eSame.C [ty46, ty46] [.pure ty4] (a0, a1, ()) =
    eSame.b c33 a0 a1 := by kernel_rfl
noncomputable def eSame.f (c33 : (List T44) × (List T44) × Unit → Option (Bool × Unit)) (fuel : Nat) (a0 : (List T44)) (a1 : (List T44)) : Option (Bool × Unit) := eSame.b c33 a0 a1
theorem eSame.ev (c33 : (List T44) × (List T44) × Unit → Option (Bool × Unit)) (fuel : Nat) (a0 : (List T44)) (a1 : (List T44)) : evalBody (eSame.E c33) fuel Try.f19 eSame.C [ty46, ty46] [.pure ty4] (a0, a1, ()) = eSame.f c33 fuel a0 a1 :=
  (eSame.b_ev c33 fuel a0 a1)

/-! ### rSame -/
noncomputable def rSame.E : Env := envOf Try.prog (pick []) (pick []) (pick [(4, [(0, none), (1, none), (5, none)])])
noncomputable def rSame.C : Code := Try.f20.body.getD .skip
noncomputable def rSame.mk4 (a0 : (List T44)) (a1 : (List T44)) (s : Int) : St := { tmps := slots 26 0 [(0, (.one (.pure ty46 a0))), (1, (.one (.pure ty46 a1))), (5, (.one (.pure ty2 s)))], st := [], next := 0 }
noncomputable def rSame.b4 (a0 : (List T44)) (a1 : (List T44)) (k4 : Int → Option (Bool × Unit)) (s : Int) : Option (Bool × Unit) :=
  match s with
  | x4_2 =>
  bif Decidable.decide (x4_2 < (↑(List.length a0) : Int)) then
    bif Decidable.decide ((0 : Int) ≤ x4_2) && Decidable.decide (x4_2 < (↑(List.length a0) : Int)) then
      bif Decidable.decide ((0 : Int) ≤ x4_2) && Decidable.decide (x4_2 < (↑(List.length a1) : Int)) then
        bif !((List.getD a0 x4_2.toNat BE.ty44.dflt).fst == (List.getD a1 x4_2.toNat BE.ty44.dflt).fst && (List.getD a0 x4_2.toNat BE.ty44.dflt).snd == (List.getD a1 x4_2.toNat BE.ty44.dflt).snd) then
          some (Bool.false, PUnit.unit)
        else
          k4 (Go.IntKind.i64.wrap (x4_2 + (1 : Int)))
      else
        none
    else
      none
  else
    some (Bool.true, PUnit.unit)
theorem rSame.b4_ev (fuel : Nat) (k4 : St → Option (Bool × Unit)) (a0 : (List T44)) (a1 : (List T44)) (s : Int) :
    bodyAt (rSame.E) fuel 4 rSame.C (endK (rSame.E) [.pure ty4] Try.f20) k4 (rSame.mk4 a0 a1 s) =
    rSame.b4 a0 a1 (fun t => k4 (rSame.mk4 a0 a1 t)) s := by kernel_rfl
noncomputable def rSame.l4 (fuel : Nat) (a0 : (List T44)) (a1 : (List T44)) (n : Nat) (s : Int) : Option (Bool × Unit) :=
  iterN (fun k4 s => rSame.b4 a0 a1 k4 s) n s
theorem rSame.l4_ev (fuel : Nat) (a0 : (List T44)) (a1 : (List T44)) (n : Nat) (s : Int) :
    loopAt (rSame.E) fuel 4 rSame.C (endK (rSame.E) [.pure ty4] Try.f20) n (rSame.mk4 a0 a1 s) = rSame.l4 fuel a0 a1 n s :=
  loop_iter (fun k4 s => (rSame.b4_ev fuel k4 a0 a1 s)) n s
noncomputable def rSame.b (a0 : (List T44)) (a1 : (List T44)) (i4 : Int → Option (Bool × Unit)) : Option (Bool × Unit) :=
  bif (↑(List.length a0) : Int) != (↑(List.length a1) : Int) then
    some (Bool.false, PUnit.unit)
  else
    i4 ((0 : Int))
theorem rSame.b_ev (fuel : Nat) (a0 : (List T44)) (a1 : (List T44)) : evalBody (rSame.E) fuel Try.f20 rSame.C [ty46, ty46] [.pure ty4] (a0, a1, ()) =
    rSame.b a0 a1 (fun t => loopAt (rSame.E) fuel 4 rSame.C (endK (rSame.E) [.pure ty4] Try.f20) fuel (rSame.mk4 a0 a1 t)) := by kernel_rfl
noncomputable def rSame.f (fuel : Nat) (a0 : (List T44)) (a1 : (List T44)) : Option (Bool × Unit) := rSame.b a0 a1 (fun t => rSame.l4 fuel a0 a1 fuel t)
theorem rSame.ev (fuel : Nat) (a0 : (List T44)) (a1 : (List T44)) : evalBody (rSame.E) fuel Try.f20 rSame.C [ty46, ty46] [.pure ty4] (a0, a1, ()) = rSame.f fuel a0 a1 :=
  (rSame.b_ev fuel a0 a1).trans (congrArg (rSame.b a0 a1) (funext fun t => rSame.l4_ev fuel a0 a1 fuel t))

/-! ### Short -/
noncomputable def Short.E : Env := envOf Try.prog (pick []) (pick []) (pick [(5, [(1, none), (2, none), (3, some ty71), (4, none)])])
noncomputable def Short.C : Code := Try.f21.body.getD .skip
noncomputable def Short.mk5 (a0 : T36) (s : (Int × Int × (List T71) × Int × Bool × Int × Bool × Int × Bool × (List Int) × Int × Int × Bool × Int × Bool × Int × Bool × (List T71))) : St := { tmps := slots 49 0 [(1, (.one (.ref 0 0 0 0))), (2, (.one (.ref 1 0 0 0))), (3, (.one (.own 2))), (4, (.one (.pure ty2 s.1)))], st := [(0, (.cells [(.pure ty2 s.2.1), (.pure ty34 s.2.2.1), (.pure ty33 s.2.2.2.1), (.pure ty4 s.2.2.2.2.1), (.pure ty33 s.2.2.2.2.2.1), (.pure ty4 s.2.2.2.2.2.2.1), (.pure ty33 s.2.2.2.2.2.2.2.1), (.pure ty4 s.2.2.2.2.2.2.2.2.1), (.pure ty35 s.2.2.2.2.2.2.2.2.2.1)])), (1, (.cells [(.pure ty2 s.2.2.2.2.2.2.2.2.2.2.1), .nil, (.pure ty33 s.2.2.2.2.2.2.2.2.2.2.2.1), (.pure ty4 s.2.2.2.2.2.2.2.2.2.2.2.2.1), (.pure ty33 s.2.2.2.2.2.2.2.2.2.2.2.2.2.1), (.pure ty4 s.2.2.2.2.2.2.2.2.2.2.2.2.2.2.1), (.pure ty33 s.2.2.2.2.2.2.2.2.2.2.2.2.2.2.2.1), (.pure ty4 s.2.2.2.2.2.2.2.2.2.2.2.2.2.2.2.2.1), .nil])), (2, (.row ty71 s.2.2.2.2.2.2.2.2.2.2.2.2.2.2.2.2.2))], next := 3 }
noncomputable def Short.b5 (a0 : T36) (k5 : (Int × Int × (List T71) × Int × Bool × Int × Bool × Int × Bool × (List Int) × Int × Int × Bool × Int × Bool × Int × Bool × (List T71)) → Option (T36 × Unit)) (s : (Int × Int × (List T71) × Int × Bool × Int × Bool × Int × Bool × (List Int) × Int × Int × Bool × Int × Bool × Int × Bool × (List T71))) : Option (T36 × Unit) :=
  match s with
  | (x5_0, x5_1, x5_2, x5_3, x5_4, x5_5, x5_6, x5_7, x5_8, x5_9, x5_10, x5_11, x5_12, x5_13, x5_14, x5_15, x5_16, x5_17) =>
  bif Decidable.decide (x5_0 < (↑x5_2.length : Int)) then
    bif Decidable.decide ((0 : Int) ≤ x5_0) && Decidable.decide (x5_0 < (↑x5_2.length : Int)) then
      bif Decidable.decide ((↑(List.length (x5_2.getD x5_0.toNat BE.ty71.dflt).snd) : Int) > (6 : Int)) then
        bif Decidable.decide ((6 : Int) ≤ (↑(List.length (x5_2.getD x5_0.toNat BE.ty71.dflt).snd) : Int)) then
          bif Decidable.decide ((x5_17.length + (1 : Nat)) * (32 : Nat) ≤ Go.Ev.maxBytes) then
            k5 (Go.IntKind.i64.wrap (x5_0 + (1 : Int)), x5_1, x5_2, x5_3, x5_4, x5_5, x5_6, x5_7, x5_8, x5_9, x5_10, x5_11, x5_12, x5_13, x5_14, x5_15, x5_16, x5_17 ++ [((x5_2.getD x5_0.toNat BE.ty71.dflt).fst, List.take (6 : Nat) (List.drop (0 : Nat) (x5_2.getD x5_0.toNat BE.ty71.dflt).snd))])
          else
            none
        else
          none
      else
        bif Decidable.decide ((x5_17.length + (1 : Nat)) * (32 : Nat) ≤ Go.Ev.maxBytes) then
          k5 (Go.IntKind.i64.wrap (x5_0 + (1 : Int)), x5_1, x5_2, x5_3, x5_4, x5_5, x5_6, x5_7, x5_8, x5_9, x5_10, x5_11, x5_12, x5_13, x5_14, x5_15, x5_16, x5_17 ++ [x5_2.getD x5_0.toNat BE.ty71.dflt])
        else
          none
    else
      none
  else
    bif Decidable.decide ((↑x5_9.length : Int) > (34 : Int)) then
      bif Decidable.decide ((34 : Int) ≤ (↑x5_9.length : Int)) then
        some ((x5_1, x5_17, x5_3, x5_4, x5_5, x5_6, x5_7, x5_8, List.take (34 : Nat) (List.drop (0 : Nat) x5_9)), PUnit.unit)
      else
        none
    else
      some ((x5_1, x5_17, x5_3, x5_4, x5_5, x5_6, x5_7, x5_8, x5_9), PUnit.unit)
theorem Short.b5_ev (fuel : Nat) (k5 : St → Option (T36 × Unit)) (a0 : T36) (s : (Int × Int × (List T71) × Int × Bool × Int × Bool × Int × Bool × (List Int) × Int × Int × Bool × Int × Bool × Int × Bool × (List T71))) :
    bodyAt (Short.E) fuel 5 Short.C (endK (Short.E) [.pure ty36] Try.f21) k5 (Short.mk5 a0 s) =
    Short.b5 a0 (fun t => k5 (Short.mk5 a0 t)) s := by kernel_rfl
noncomputable def Short.l5 (fuel : Nat) (a0 : T36) (n : Nat) (s : (Int × Int × (List T71) × Int × Bool × Int × Bool × Int × Bool × (List Int) × Int × Int × Bool × Int × Bool × Int × Bool × (List T71))) : Option (T36 × Unit) :=
  iterN (fun k5 s => Short.b5 a0 k5 s) n s
theorem Short.l5_ev (fuel : Nat) (a0 : T36) (n : Nat) (s : (Int × Int × (List T71) × Int × Bool × Int × Bool × Int × Bool × (List Int) × Int × Int × Bool × Int × Bool × Int × Bool × (List T71))) :
    loopAt (Short.E) fuel 5 Short.C (endK (Short.E) [.pure ty36] Try.f21) n (Short.mk5 a0 s) = Short.l5 fuel a0 n s :=
  loop_iter (fun k5 s => (Short.b5_ev fuel k5 a0 s)) n s
noncomputable def Short.b (a0 : T36) (i5 : (Int × Int × (List T71) × Int × Bool × Int × Bool × Int × Bool × (List Int) × Int × Int × Bool × Int × Bool × Int × Bool × (List T71)) → Option (T36 × Unit)) : Option (T36 × Unit) :=
  bif Decidable.decide ((↑(List.length a0.snd.fst) : Int) > (18 : Int)) then
    bif Decidable.decide ((18 : Int) ≤ (↑(List.length a0.snd.fst) : Int)) then
      i5 ((0 : Int), a0.fst, List.take (18 : Nat) (List.drop (0 : Nat) a0.snd.fst), a0.snd.snd.fst, a0.snd.snd.snd.fst, a0.snd.snd.snd.snd.fst, a0.snd.snd.snd.snd.snd.fst, a0.snd.snd.snd.snd.snd.snd.fst, a0.snd.snd.snd.snd.snd.snd.snd.fst, a0.snd.snd.snd.snd.snd.snd.snd.snd, (0 : Int), (0 : Int), Bool.false, (0 : Int), Bool.false, (0 : Int), Bool.false, [])
    else
      none
  else
    i5 ((0 : Int), a0.fst, a0.snd.fst, a0.snd.snd.fst, a0.snd.snd.snd.fst, a0.snd.snd.snd.snd.fst, a0.snd.snd.snd.snd.snd.fst, a0.snd.snd.snd.snd.snd.snd.fst, a0.snd.snd.snd.snd.snd.snd.snd.fst, a0.snd.snd.snd.snd.snd.snd.snd.snd, (0 : Int), (0 : Int), Bool.false, (0 : Int), Bool.false, (0 : Int), Bool.false, [])
theorem Short.b_ev (fuel : Nat) (a0 : T36) : evalBody (Short.E) fuel Try.f21 Short.C [ty36] [.pure ty36] (a0, ()) =
    Short.b a0 (fun t => loopAt (Short.E) fuel 5 Short.C (endK (Short.E) [.pure ty36] Try.f21) fuel (Short.mk5 a0 t)) := by kernel_rfl
noncomputable def Short.f (fuel : Nat) (a0 : T36) : Option (T36 × Unit) := Short.b a0 (fun t => Short.l5 fuel a0 fuel t)
theorem Short.ev (fuel : Nat) (a0 : T36) : evalBody (Short.E) fuel Try.f21 Short.C [ty36] [.pure ty36] (a0, ()) = Short.f fuel a0 :=
  (Short.b_ev fuel a0).trans (congrArg (Short.b a0) (funext fun t => Short.l5_ev fuel a0 fuel t))

/-! ### SortStable -/
noncomputable def SortStable.E (c34 : (List Int) × Int × ((List T41) × Unit) × Unit → Option ((Unit) × ((List Int) × Int × ((List T41) × Unit) × Unit))) (c23 : Int × Int × (List T41) × Unit → Option ((Int × Unit) × (Int × Int × (List T41) × Unit))) : Env := envOf Try.prog (pick []) (pick [(34, extBy ⟨[.row ty2, .pure ty2, .fn 23 [ty23]], [], c34⟩), (23, extBy ⟨[.pure ty2, .pure ty2, .con ty23], [.pure ty2], c23⟩)]) (pick [])
noncomputable def SortStable.C : Code := Try.f22.body.getD .skip
noncomputable def SortStable.b (c34 : (List Int) × Int × ((List T41) × Unit) × Unit → Option ((Unit) × ((List Int) × Int × ((List T41) × Unit) × Unit))) (c23 : Int × Int × (List T41) × Unit → Option ((Int × Unit) × (Int × Int × (List T41) × Unit))) (a0 : (List Int)) (a1 : ((List T41) × Unit)) : Option ((Unit) × ((List Int) × ((List T41) × Unit) × Unit)) :=
  (c34 (a0, (↑(List.length a0) : Int), (a1.fst, ()), ())).bind fun r0 =>
  some ((), (r0.snd.fst, ((r0.snd.snd.snd.fst.fst, ()), PUnit.unit)))
theorem SortStable.b_ev (c34 : (List Int) × Int × ((List T41) × Unit) × Unit → Option ((Unit) × ((List Int) × Int × ((List T41) × Unit) × Unit))) (c23 : Int × Int × (List T41) × Unit → Option ((Int × Unit) × (Int × Int × (List T41) × Unit))) (fuel : Nat) (a0 : (List Int)) (a1 : ((List T41) × Unit)) : evalBy (SortStable.E c34 c23) fuel Try.f22 SortStable.C [.row ty2, .fn 23 [ty23]] [] (a0, a1, ()) =
    SortStable.b c34 c23 a0 a1 := by kernel_rfl
noncomputable def SortStable.f (c34 : (List Int) × Int × ((List T41) × Unit) × Unit → Option ((Unit) × ((List Int) × Int × ((List T41) × Unit) × Unit))) (c23 : Int × Int × (List T41) × Unit → Option ((Int × Unit) × (Int × Int × (List T41) × Unit))) (fuel : Nat) (a0 : (List Int)) (a1 : ((List T41) × Unit)) : Option ((Unit) × ((List Int) × ((List T41) × Unit) × Unit)) := SortStable.b c34 c23 a0 a1
theorem SortStable.ev (c34 : (List Int) × Int × ((List T41) × Unit) × Unit → Option ((Unit) × ((List Int) × Int × ((List T41) × Unit) × Unit))) (c23 : Int × Int × (List T41) × Unit → Option ((Int × Unit) × (Int × Int × (List T41) × Unit))) (fuel : Nat) (a0 : (List Int)) (a1 : ((List T41) × Unit)) : evalBy (SortStable.E c34 c23) fuel Try.f22 SortStable.C [.row ty2, .fn 23 [ty23]] [] (a0, a1, ()) = SortStable.f c34 c23 fuel a0 a1 :=
  (SortStable.b_ev c34 c23 fuel a0 a1)

end BE