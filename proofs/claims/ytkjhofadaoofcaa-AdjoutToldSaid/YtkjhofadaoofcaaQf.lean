/- Contracts and laws that the claim needs, packed from several texts. -/
import Derived.Ground.SlsfProg
import Derived.Laws.Cover2
import Derived.Laws.Externs
import Derived.Shelf.SlGeneric
import Derived.Tactics
import Derived.Test.YtkjhofadaoofcaaProg
import Derived.Test.YtkjhofadaoofcaaQe
import Derived.Test.YtkjhofadaoofcaaQs
section
set_option linter.unusedVariables false
set_option maxRecDepth 100000
open Go Go.Ev Go.Proofs
namespace BE
noncomputable def Book_Within.E : Env := envOf Try.prog (pick []) (pick []) (pick [])
noncomputable def Book_Within.C : Code := Try.f19.body.getD .skip
theorem Book_Within.b_ev (fuel : Nat) (a0 : Int) (a1 : Int) (a2 : Int) : evalBody (Book_Within.E) fuel Try.f19 Book_Within.C [tyI, tyI, tyI] [.pure tyI] (a0, a1, a2, ()) =
    Book_Within.b a0 a1 a2 := by kernel_rfl
theorem Book_Within.ev (fuel : Nat) (a0 : Int) (a1 : Int) (a2 : Int) : evalBody (Book_Within.E) fuel Try.f19 Book_Within.C [tyI, tyI, tyI] [.pure tyI] (a0, a1, a2, ()) = Book_Within.f fuel a0 a1 a2 :=
  (Book_Within.b_ev fuel a0 a1 a2)
noncomputable def Keep_Next.E : Env := envOf Try.prog (pick []) (pick []) (pick [])
noncomputable def Keep_Next.C : Code := Try.f20.body.getD .skip
theorem Keep_Next.b_ev (fuel : Nat) (a0 : Int) : evalBody (Keep_Next.E) fuel Try.f20 Keep_Next.C [tyW] [.pure tyW] (a0, ()) =
    Keep_Next.b a0 := by kernel_rfl
theorem Keep_Next.ev (fuel : Nat) (a0 : Int) : evalBody (Keep_Next.E) fuel Try.f20 Keep_Next.C [tyW] [.pure tyW] (a0, ()) = Keep_Next.f fuel a0 :=
  (Keep_Next.b_ev fuel a0)
noncomputable def Keep_Prefix.E (c0 : Z0) (c1 : Z1) : Env := envOf Try.prog (pick [(19, ⟨[tyI, tyI, tyI], [.pure tyI], c0⟩), (37, ⟨[tyW, tyI], [.pure tyPrefix], c1⟩)]) (pick []) (pick [])
noncomputable def Keep_Prefix.C : Code := Try.f18.body.getD .skip
theorem Keep_Prefix.b_ev (c0 : Z0) (c1 : Z1) (fuel : Nat) (a0 : Int) (a1 : Int) : evalBody (Keep_Prefix.E c0 c1) fuel Try.f18 Keep_Prefix.C [tyW, tyI] [.pure tyPrefix] (a0, a1, ()) =
    Keep_Prefix.b c0 c1 a0 a1 := by kernel_rfl
theorem Keep_Prefix.ev (c0 : Z0) (c1 : Z1) (fuel : Nat) (a0 : Int) (a1 : Int) : evalBody (Keep_Prefix.E c0 c1) fuel Try.f18 Keep_Prefix.C [tyW, tyI] [.pure tyPrefix] (a0, a1, ()) = Keep_Prefix.f c0 c1 fuel a0 a1 :=
  (Keep_Prefix.b_ev c0 c1 fuel a0 a1)
noncomputable def Keep_Tame.E (c0 : Z0) (c1 : Int × Unit → Option (Int × Unit)) (c2 : Z2) : Env := envOf Try.prog (pick [(19, ⟨[tyI, tyI, tyI], [.pure tyI], c0⟩), (20, ⟨[tyW], [.pure tyW], c1⟩)]) (pick [(21, extBy ⟨[.give tyW, .pure tyW], [.fresh tyW], c2⟩)]) (pick [(8, [(2, none), (4, none), (5, none), (6, none), (7, none)]), (13, [(2, none), (4, none), (5, none), (8, none), (900005, some tyW), (900005, some tyW)])])
noncomputable def Keep_Tame.C : Code := Try.f7.body.getD .skip
noncomputable def Keep_Tame.mk0 (a0 : TAttrs) (a1 : Int) (s : Z6) : St := { tmps := slots 99 0 [(2, (.one (.ref 0 0 0 0))), (4, (.one (.ref 1 0 0 0))), (5, (.one (.ref 2 0 0 0))), (6, (.one (.ref 3 0 0 0))), (7, (.one (.pure tyI s.1)))], st := [(0, (.cells [(.pure tyI s.2.1), (.pure (.sl tySeg) s.2.2.1), (.pure tyW s.2.2.2.1), (.pure tyB s.2.2.2.2.1), (.pure tyW s.2.2.2.2.2.1), (.pure tyB s.2.2.2.2.2.2.1), (.pure tyW s.2.2.2.2.2.2.2.1), (.pure tyB s.2.2.2.2.2.2.2.2.1), (.pure (.sl tyW) s.2.2.2.2.2.2.2.2.2.1)])), (1, (.cells [(.pure tyI s.2.2.2.2.2.2.2.2.2.2.1), .nil, (.pure tyW s.2.2.2.2.2.2.2.2.2.2.2.1), (.pure tyB s.2.2.2.2.2.2.2.2.2.2.2.2.1), (.pure tyW s.2.2.2.2.2.2.2.2.2.2.2.2.2.1), (.pure tyB s.2.2.2.2.2.2.2.2.2.2.2.2.2.2.1), (.pure tyW s.2.2.2.2.2.2.2.2.2.2.2.2.2.2.2.1), (.pure tyB s.2.2.2.2.2.2.2.2.2.2.2.2.2.2.2.2.1), .nil])), (2, (.cells [(.pure tyI s.2.2.2.2.2.2.2.2.2.2.2.2.2.2.2.2.2.1), .nil, (.pure tyW s.2.2.2.2.2.2.2.2.2.2.2.2.2.2.2.2.2.2.1), (.pure tyB s.2.2.2.2.2.2.2.2.2.2.2.2.2.2.2.2.2.2.2.1), (.pure tyW s.2.2.2.2.2.2.2.2.2.2.2.2.2.2.2.2.2.2.2.2.1), (.pure tyB s.2.2.2.2.2.2.2.2.2.2.2.2.2.2.2.2.2.2.2.2.2.1), (.pure tyW s.2.2.2.2.2.2.2.2.2.2.2.2.2.2.2.2.2.2.2.2.2.2.1), (.pure tyB s.2.2.2.2.2.2.2.2.2.2.2.2.2.2.2.2.2.2.2.2.2.2.2.1), .nil])), (3, (.cells [(.pure tyI s.2.2.2.2.2.2.2.2.2.2.2.2.2.2.2.2.2.2.2.2.2.2.2.2.1), (.own 4)])), (4, (.row tyW s.2.2.2.2.2.2.2.2.2.2.2.2.2.2.2.2.2.2.2.2.2.2.2.2.2))], next := 5 }
noncomputable def Keep_Tame.mk1 (a0 : TAttrs) (a1 : Int) (x0_1 : Int) (x0_2 : (List TSeg)) (x0_3 : Int) (x0_4 : Bool) (x0_5 : Int) (x0_6 : Bool) (x0_7 : Int) (x0_8 : Bool) (x0_9 : (List Int)) (x0_10 : Int) (x0_11 : Int) (x0_12 : Bool) (x0_13 : Int) (x0_14 : Bool) (x0_15 : Int) (x0_16 : Bool) (x0_17 : Int) (x0_18 : Int) (x0_19 : Bool) (x0_20 : Int) (x0_21 : Bool) (x0_22 : Int) (x0_23 : Bool) (s : (Int × (List TSeg) × (List Int))) : St := { tmps := slots 99 0 [(2, (.one (.ref 0 0 0 0))), (4, (.one (.ref 1 0 0 0))), (5, (.one (.ref 2 0 0 0))), (8, (.one (.pure tyI s.1)))], st := [(0, (.cells [(.pure tyI x0_1), (.pure (.sl tySeg) x0_2), (.pure tyW x0_3), (.pure tyB x0_4), (.pure tyW x0_5), (.pure tyB x0_6), (.pure tyW x0_7), (.pure tyB x0_8), (.pure (.sl tyW) x0_9)])), (1, (.cells [(.pure tyI x0_10), .nil, (.pure tyW x0_11), (.pure tyB x0_12), (.pure tyW x0_13), (.pure tyB x0_14), (.pure tyW x0_15), (.pure tyB x0_16), .nil])), (2, (.cells [(.pure tyI x0_17), (.own 3), (.pure tyW x0_18), (.pure tyB x0_19), (.pure tyW x0_20), (.pure tyB x0_21), (.pure tyW x0_22), (.pure tyB x0_23), (.own 4)])), (3, (.row tySeg s.2.1)), (4, (.row tyW s.2.2))], next := 5 }
theorem Keep_Tame.b1_ev (c0 : Z0) (c1 : Int × Unit → Option (Int × Unit)) (c2 : Z2) (fuel : Nat) (k1 : St → Option (TAttrs × Unit)) (a0 : TAttrs) (a1 : Int) (x0_1 : Int) (x0_2 : (List TSeg)) (x0_3 : Int) (x0_4 : Bool) (x0_5 : Int) (x0_6 : Bool) (x0_7 : Int) (x0_8 : Bool) (x0_9 : (List Int)) (x0_10 : Int) (x0_11 : Int) (x0_12 : Bool) (x0_13 : Int) (x0_14 : Bool) (x0_15 : Int) (x0_16 : Bool) (x0_17 : Int) (x0_18 : Int) (x0_19 : Bool) (x0_20 : Int) (x0_21 : Bool) (x0_22 : Int) (x0_23 : Bool) (s : (Int × (List TSeg) × (List Int))) :
    bodyAt (Keep_Tame.E c0 c1 c2) fuel 13 Keep_Tame.C (endK (Keep_Tame.E c0 c1 c2) [.pure tyAttrs] Try.f7) k1 (Keep_Tame.mk1 a0 a1 x0_1 x0_2 x0_3 x0_4 x0_5 x0_6 x0_7 x0_8 x0_9 x0_10 x0_11 x0_12 x0_13 x0_14 x0_15 x0_16 x0_17 x0_18 x0_19 x0_20 x0_21 x0_22 x0_23 s) =
    Keep_Tame.b1 c0 c1 c2 a0 a1 x0_1 x0_2 x0_3 x0_4 x0_5 x0_6 x0_7 x0_8 x0_9 x0_10 x0_11 x0_12 x0_13 x0_14 x0_15 x0_16 x0_17 x0_18 x0_19 x0_20 x0_21 x0_22 x0_23 (fun t => k1 (Keep_Tame.mk1 a0 a1 x0_1 x0_2 x0_3 x0_4 x0_5 x0_6 x0_7 x0_8 x0_9 x0_10 x0_11 x0_12 x0_13 x0_14 x0_15 x0_16 x0_17 x0_18 x0_19 x0_20 x0_21 x0_22 x0_23 t)) s := by kernel_rfl
theorem Keep_Tame.l1_ev (c0 : Z0) (c1 : Int × Unit → Option (Int × Unit)) (c2 : Z2) (fuel : Nat) (a0 : TAttrs) (a1 : Int) (x0_1 : Int) (x0_2 : (List TSeg)) (x0_3 : Int) (x0_4 : Bool) (x0_5 : Int) (x0_6 : Bool) (x0_7 : Int) (x0_8 : Bool) (x0_9 : (List Int)) (x0_10 : Int) (x0_11 : Int) (x0_12 : Bool) (x0_13 : Int) (x0_14 : Bool) (x0_15 : Int) (x0_16 : Bool) (x0_17 : Int) (x0_18 : Int) (x0_19 : Bool) (x0_20 : Int) (x0_21 : Bool) (x0_22 : Int) (x0_23 : Bool) (n : Nat) (s : (Int × (List TSeg) × (List Int))) :
    loopAt (Keep_Tame.E c0 c1 c2) fuel 13 Keep_Tame.C (endK (Keep_Tame.E c0 c1 c2) [.pure tyAttrs] Try.f7) n (Keep_Tame.mk1 a0 a1 x0_1 x0_2 x0_3 x0_4 x0_5 x0_6 x0_7 x0_8 x0_9 x0_10 x0_11 x0_12 x0_13 x0_14 x0_15 x0_16 x0_17 x0_18 x0_19 x0_20 x0_21 x0_22 x0_23 s) = Keep_Tame.l1 c0 c1 c2 fuel a0 a1 x0_1 x0_2 x0_3 x0_4 x0_5 x0_6 x0_7 x0_8 x0_9 x0_10 x0_11 x0_12 x0_13 x0_14 x0_15 x0_16 x0_17 x0_18 x0_19 x0_20 x0_21 x0_22 x0_23 n s :=
  loop_iter (fun k1 s => (Keep_Tame.b1_ev c0 c1 c2 fuel k1 a0 a1 x0_1 x0_2 x0_3 x0_4 x0_5 x0_6 x0_7 x0_8 x0_9 x0_10 x0_11 x0_12 x0_13 x0_14 x0_15 x0_16 x0_17 x0_18 x0_19 x0_20 x0_21 x0_22 x0_23 s)) n s
theorem Keep_Tame.b0_ev (c0 : Z0) (c1 : Int × Unit → Option (Int × Unit)) (c2 : Z2) (fuel : Nat) (k0 : St → Option (TAttrs × Unit)) (a0 : TAttrs) (a1 : Int) (s : Z6) :
    bodyAt (Keep_Tame.E c0 c1 c2) fuel 8 Keep_Tame.C (endK (Keep_Tame.E c0 c1 c2) [.pure tyAttrs] Try.f7) k0 (Keep_Tame.mk0 a0 a1 s) =
    Keep_Tame.b0 c0 c1 c2 a0 a1 (fun x0_1 x0_2 x0_3 x0_4 x0_5 x0_6 x0_7 x0_8 x0_9 x0_10 x0_11 x0_12 x0_13 x0_14 x0_15 x0_16 x0_17 x0_18 x0_19 x0_20 x0_21 x0_22 x0_23 t => loopAt (Keep_Tame.E c0 c1 c2) fuel 13 Keep_Tame.C (endK (Keep_Tame.E c0 c1 c2) [.pure tyAttrs] Try.f7) fuel (Keep_Tame.mk1 a0 a1 x0_1 x0_2 x0_3 x0_4 x0_5 x0_6 x0_7 x0_8 x0_9 x0_10 x0_11 x0_12 x0_13 x0_14 x0_15 x0_16 x0_17 x0_18 x0_19 x0_20 x0_21 x0_22 x0_23 t)) (fun t => k0 (Keep_Tame.mk0 a0 a1 t)) s := by kernel_rfl
theorem Keep_Tame.l0_ev (c0 : Z0) (c1 : Int × Unit → Option (Int × Unit)) (c2 : Z2) (fuel : Nat) (a0 : TAttrs) (a1 : Int) (n : Nat) (s : Z6) :
    loopAt (Keep_Tame.E c0 c1 c2) fuel 8 Keep_Tame.C (endK (Keep_Tame.E c0 c1 c2) [.pure tyAttrs] Try.f7) n (Keep_Tame.mk0 a0 a1 s) = Keep_Tame.l0 c0 c1 c2 fuel a0 a1 n s :=
  loop_iter (fun k0 s => (Keep_Tame.b0_ev c0 c1 c2 fuel k0 a0 a1 s).trans (congrFun (congrFun (congrArg (Keep_Tame.b0 c0 c1 c2 a0 a1) (funext fun x0_1 => funext fun x0_2 => funext fun x0_3 => funext fun x0_4 => funext fun x0_5 => funext fun x0_6 => funext fun x0_7 => funext fun x0_8 => funext fun x0_9 => funext fun x0_10 => funext fun x0_11 => funext fun x0_12 => funext fun x0_13 => funext fun x0_14 => funext fun x0_15 => funext fun x0_16 => funext fun x0_17 => funext fun x0_18 => funext fun x0_19 => funext fun x0_20 => funext fun x0_21 => funext fun x0_22 => funext fun x0_23 => funext fun t => Keep_Tame.l1_ev c0 c1 c2 fuel a0 a1 x0_1 x0_2 x0_3 x0_4 x0_5 x0_6 x0_7 x0_8 x0_9 x0_10 x0_11 x0_12 x0_13 x0_14 x0_15 x0_16 x0_17 x0_18 x0_19 x0_20 x0_21 x0_22 x0_23 fuel t)) (fun t => k0 (Keep_Tame.mk0 a0 a1 t))) s)) n s
theorem Keep_Tame.b_ev (c0 : Z0) (c1 : Int × Unit → Option (Int × Unit)) (c2 : Z2) (fuel : Nat) (a0 : TAttrs) (a1 : Int) : evalBody (Keep_Tame.E c0 c1 c2) fuel Try.f7 Keep_Tame.C [tyAttrs, tyW] [.pure tyAttrs] (a0, a1, ()) =
    Keep_Tame.b c0 c1 c2 a0 a1 (fun t => loopAt (Keep_Tame.E c0 c1 c2) fuel 8 Keep_Tame.C (endK (Keep_Tame.E c0 c1 c2) [.pure tyAttrs] Try.f7) fuel (Keep_Tame.mk0 a0 a1 t)) := by kernel_rfl
theorem Keep_Tame.ev (c0 : Z0) (c1 : Int × Unit → Option (Int × Unit)) (c2 : Z2) (fuel : Nat) (a0 : TAttrs) (a1 : Int) : evalBody (Keep_Tame.E c0 c1 c2) fuel Try.f7 Keep_Tame.C [tyAttrs, tyW] [.pure tyAttrs] (a0, a1, ()) = Keep_Tame.f c0 c1 c2 fuel a0 a1 :=
  (Keep_Tame.b_ev c0 c1 c2 fuel a0 a1).trans (congrArg (Keep_Tame.b c0 c1 c2 a0 a1) (funext fun t => Keep_Tame.l0_ev c0 c1 c2 fuel a0 a1 fuel t))
noncomputable def L22_AdjoutTold.E (c0 : Z7) (c1 : Z8) (c2 : Z9) (c3 : Z10) (c4 : Z11) (c5 : Z12) (c6 : Z13) (c7 : Z14) (c8 : Z15) (c9 : Z16) (c10 : Unit → Option (Bool × Unit)) : Env := envOf Try.prog (pick [(6, ⟨[tyL22_Ask], [.pure tyPrefix], c1⟩), (7, ⟨[tyAttrs, tyW], [.pure tyAttrs], c2⟩), (11, ⟨[tyAttrs, tyAttrs], [.pure tyB], c7⟩), (12, ⟨[(.box tyadjout_Out)], [.fresh tyPrefix], c8⟩), (14, ⟨[], [.pure tyB], c10⟩)]) (pick [(4, extBy ⟨[], [.deep (.box dtOut)], c0⟩), (5, extBy ⟨[.deep (.box dtOut), .pure tyPrefix, .pure tyAttrs], [.pure tyI], c3⟩), (8, extBy ⟨[.deep (.box dtOut), .pure tyPrefix], [.pure tyB], c4⟩), (9, extBy ⟨[.deep (.box dtOut)], [.fresh tyadjout_Change], c5⟩), (10, extBy ⟨[.give tyL22_one, .pure tyPrefix], [.fresh tyL22_one, .pure tyI], c6⟩), (13, extBy ⟨[.deep (.box dtOut), .pure tyPrefix], [.pure tyAttrs, .pure tyB], c9⟩)]) (pick [(6, [(0, none), (3, none), (4, some tyL22_one), (5, none)]), (17, [(0, none), (3, none), (4, some tyL22_one), (5, none), (7, none), (8, none)]), (27, hn [0, 3, 4, 5, 11, 12, 13])])
noncomputable def L22_AdjoutTold.C : Code := Try.f3.body.getD .skip
noncomputable def L22_AdjoutTold.mk0 (a0 : (List TL22_Ask)) (s : (Int × DOut × (List TL22_one))) : St := { tmps := slots 196 0 [(0, (.one (.pure (.sl tyL22_Ask) a0))), (3, (.one (.ref 0 0 0 0))), (4, (.one (.own 1))), (5, (.one (.pure tyI s.1)))], st := [(0, (.deep (.box dtOut) s.2.1)), (1, (.row tyL22_one s.2.2))], next := 2 }
noncomputable def L22_AdjoutTold.mk1 (a0 : (List TL22_Ask)) (x0_1 : Int) (s : Z22) : St := { tmps := slots 196 0 [(0, (.one (.pure (.sl tyL22_Ask) a0))), (3, (.one (.ref 0 0 0 0))), (4, (.one (.own 1))), (5, (.one (.pure tyI x0_1))), (7, (.one (.own 2))), (8, (.one (.pure tyI s.1)))], st := [(0, (.deep (.box dtOut) s.2.1)), (1, (.row tyL22_one s.2.2.1)), (2, (.row tyadjout_Change s.2.2.2))], next := 3 }
noncomputable def L22_AdjoutTold.mk2 (a0 : (List TL22_Ask)) (x0_1 : Int) (x1_4 : (List TL22_one)) (s : Z19) : St := { tmps := slots 196 0 [(0, (.one (.pure (.sl tyL22_Ask) a0))), (3, (.one (.ref 0 0 0 0))), (4, (.one (.own 1))), (5, (.one (.pure tyI x0_1))), (11, (.one (.own 2))), (12, (.one (.pure tyI s.1))), (13, (.one (.pure tyI s.2.1)))], st := [(0, (.deep (.box dtOut) s.2.2.1)), (1, (.row tyL22_one x1_4)), (2, (.row tyPrefix s.2.2.2))], next := 3 }
noncomputable def L22_AdjoutTold.C0 (c0 : Z7) (c1 : Z8) (c2 : Z9) (c3 : Z10) (c4 : Z11) (c5 : Z12) (c6 : Z13) (c7 : Z14) (c8 : Z15) (c9 : Z16) (c10 : Unit → Option (Bool × Unit)) (fuel : Nat) : Code := codeAt (L22_AdjoutTold.E c0 c1 c2 c3 c4 c5 c6 c7 c8 c9 c10) fuel 6 L22_AdjoutTold.C
noncomputable def L22_AdjoutTold.K0 (c0 : Z7) (c1 : Z8) (c2 : Z9) (c3 : Z10) (c4 : Z11) (c5 : Z12) (c6 : Z13) (c7 : Z14) (c8 : Z15) (c9 : Z16) (c10 : Unit → Option (Bool × Unit)) (fuel : Nat) (k0 : St → Option (Bool × Unit)) : Ex → St → Option (Bool × Unit) := contAt (L22_AdjoutTold.E c0 c1 c2 c3 c4 c5 c6 c7 c8 c9 c10) fuel 6 L22_AdjoutTold.C (endK (L22_AdjoutTold.E c0 c1 c2 c3 c4 c5 c6 c7 c8 c9 c10) [.pure tyB] Try.f3) k0
theorem L22_AdjoutTold.b2_ev (c0 : Z7) (c1 : Z8) (c2 : Z9) (c3 : Z10) (c4 : Z11) (c5 : Z12) (c6 : Z13) (c7 : Z14) (c8 : Z15) (c9 : Z16) (c10 : Unit → Option (Bool × Unit)) (fuel : Nat) (k0 : St → Option (Bool × Unit)) (k2 : St → Option (Bool × Unit)) (a0 : (List TL22_Ask)) (x0_1 : Int) (x1_4 : (List TL22_one)) (s : Z19) :
    bodyAt (L22_AdjoutTold.E c0 c1 c2 c3 c4 c5 c6 c7 c8 c9 c10) fuel 27 (L22_AdjoutTold.C0 c0 c1 c2 c3 c4 c5 c6 c7 c8 c9 c10 fuel) (L22_AdjoutTold.K0 c0 c1 c2 c3 c4 c5 c6 c7 c8 c9 c10 fuel k0) k2 (L22_AdjoutTold.mk2 a0 x0_1 x1_4 s) =
    L22_AdjoutTold.b2 c0 c1 c2 c3 c4 c5 c6 c7 c8 c9 c10 a0 x0_1 x1_4 (fun t => k0 (L22_AdjoutTold.mk0 a0 t)) (fun t => k2 (L22_AdjoutTold.mk2 a0 x0_1 x1_4 t)) s := by kernel_rfl
theorem L22_AdjoutTold.l2_ev (c0 : Z7) (c1 : Z8) (c2 : Z9) (c3 : Z10) (c4 : Z11) (c5 : Z12) (c6 : Z13) (c7 : Z14) (c8 : Z15) (c9 : Z16) (c10 : Unit → Option (Bool × Unit)) (fuel : Nat) (k0 : St → Option (Bool × Unit)) (a0 : (List TL22_Ask)) (x0_1 : Int) (x1_4 : (List TL22_one)) (n : Nat) (s : Z19) :
    loopAt (L22_AdjoutTold.E c0 c1 c2 c3 c4 c5 c6 c7 c8 c9 c10) fuel 27 (L22_AdjoutTold.C0 c0 c1 c2 c3 c4 c5 c6 c7 c8 c9 c10 fuel) (L22_AdjoutTold.K0 c0 c1 c2 c3 c4 c5 c6 c7 c8 c9 c10 fuel k0) n (L22_AdjoutTold.mk2 a0 x0_1 x1_4 s) = L22_AdjoutTold.l2 c0 c1 c2 c3 c4 c5 c6 c7 c8 c9 c10 fuel a0 x0_1 x1_4 (fun t => k0 (L22_AdjoutTold.mk0 a0 t)) n s :=
  loop_iter (fun k2 s => (L22_AdjoutTold.b2_ev c0 c1 c2 c3 c4 c5 c6 c7 c8 c9 c10 fuel k0 k2 a0 x0_1 x1_4 s)) n s
theorem L22_AdjoutTold.b1_ev (c0 : Z7) (c1 : Z8) (c2 : Z9) (c3 : Z10) (c4 : Z11) (c5 : Z12) (c6 : Z13) (c7 : Z14) (c8 : Z15) (c9 : Z16) (c10 : Unit → Option (Bool × Unit)) (fuel : Nat) (k0 : St → Option (Bool × Unit)) (k1 : St → Option (Bool × Unit)) (a0 : (List TL22_Ask)) (x0_1 : Int) (s : Z22) :
    bodyAt (L22_AdjoutTold.E c0 c1 c2 c3 c4 c5 c6 c7 c8 c9 c10) fuel 17 (L22_AdjoutTold.C0 c0 c1 c2 c3 c4 c5 c6 c7 c8 c9 c10 fuel) (L22_AdjoutTold.K0 c0 c1 c2 c3 c4 c5 c6 c7 c8 c9 c10 fuel k0) k1 (L22_AdjoutTold.mk1 a0 x0_1 s) =
    L22_AdjoutTold.b1 c0 c1 c2 c3 c4 c5 c6 c7 c8 c9 c10 a0 x0_1 (fun x0_1 x1_4 t => loopAt (L22_AdjoutTold.E c0 c1 c2 c3 c4 c5 c6 c7 c8 c9 c10) fuel 27 (L22_AdjoutTold.C0 c0 c1 c2 c3 c4 c5 c6 c7 c8 c9 c10 fuel) (L22_AdjoutTold.K0 c0 c1 c2 c3 c4 c5 c6 c7 c8 c9 c10 fuel k0) fuel (L22_AdjoutTold.mk2 a0 x0_1 x1_4 t)) (fun t => k0 (L22_AdjoutTold.mk0 a0 t)) (fun t => k1 (L22_AdjoutTold.mk1 a0 x0_1 t)) s := by kernel_rfl
theorem L22_AdjoutTold.l1_ev (c0 : Z7) (c1 : Z8) (c2 : Z9) (c3 : Z10) (c4 : Z11) (c5 : Z12) (c6 : Z13) (c7 : Z14) (c8 : Z15) (c9 : Z16) (c10 : Unit → Option (Bool × Unit)) (fuel : Nat) (k0 : St → Option (Bool × Unit)) (a0 : (List TL22_Ask)) (x0_1 : Int) (n : Nat) (s : Z22) :
    loopAt (L22_AdjoutTold.E c0 c1 c2 c3 c4 c5 c6 c7 c8 c9 c10) fuel 17 (L22_AdjoutTold.C0 c0 c1 c2 c3 c4 c5 c6 c7 c8 c9 c10 fuel) (L22_AdjoutTold.K0 c0 c1 c2 c3 c4 c5 c6 c7 c8 c9 c10 fuel k0) n (L22_AdjoutTold.mk1 a0 x0_1 s) = L22_AdjoutTold.l1 c0 c1 c2 c3 c4 c5 c6 c7 c8 c9 c10 fuel a0 x0_1 (fun t => k0 (L22_AdjoutTold.mk0 a0 t)) n s :=
  loop_iter (fun k1 s => (L22_AdjoutTold.b1_ev c0 c1 c2 c3 c4 c5 c6 c7 c8 c9 c10 fuel k0 k1 a0 x0_1 s).trans (congrFun (congrFun (congrFun (congrArg (L22_AdjoutTold.b1 c0 c1 c2 c3 c4 c5 c6 c7 c8 c9 c10 a0 x0_1) (funext fun x0_1 => funext fun x1_4 => funext fun t => L22_AdjoutTold.l2_ev c0 c1 c2 c3 c4 c5 c6 c7 c8 c9 c10 fuel k0 a0 x0_1 x1_4 fuel t)) (fun t => k0 (L22_AdjoutTold.mk0 a0 t))) (fun t => k1 (L22_AdjoutTold.mk1 a0 x0_1 t))) s)) n s
theorem L22_AdjoutTold.b0_ev (c0 : Z7) (c1 : Z8) (c2 : Z9) (c3 : Z10) (c4 : Z11) (c5 : Z12) (c6 : Z13) (c7 : Z14) (c8 : Z15) (c9 : Z16) (c10 : Unit → Option (Bool × Unit)) (fuel : Nat) (k0 : St → Option (Bool × Unit)) (a0 : (List TL22_Ask)) (s : (Int × DOut × (List TL22_one))) :
    bodyAt (L22_AdjoutTold.E c0 c1 c2 c3 c4 c5 c6 c7 c8 c9 c10) fuel 6 L22_AdjoutTold.C (endK (L22_AdjoutTold.E c0 c1 c2 c3 c4 c5 c6 c7 c8 c9 c10) [.pure tyB] Try.f3) k0 (L22_AdjoutTold.mk0 a0 s) =
    L22_AdjoutTold.b0 c0 c1 c2 c3 c4 c5 c6 c7 c8 c9 c10 a0 (fun x0_1 t => loopAt (L22_AdjoutTold.E c0 c1 c2 c3 c4 c5 c6 c7 c8 c9 c10) fuel 17 (L22_AdjoutTold.C0 c0 c1 c2 c3 c4 c5 c6 c7 c8 c9 c10 fuel) (L22_AdjoutTold.K0 c0 c1 c2 c3 c4 c5 c6 c7 c8 c9 c10 fuel k0) fuel (L22_AdjoutTold.mk1 a0 x0_1 t)) (fun t => k0 (L22_AdjoutTold.mk0 a0 t)) s := by kernel_rfl
theorem L22_AdjoutTold.l0_ev (c0 : Z7) (c1 : Z8) (c2 : Z9) (c3 : Z10) (c4 : Z11) (c5 : Z12) (c6 : Z13) (c7 : Z14) (c8 : Z15) (c9 : Z16) (c10 : Unit → Option (Bool × Unit)) (fuel : Nat) (a0 : (List TL22_Ask)) (n : Nat) (s : (Int × DOut × (List TL22_one))) :
    loopAt (L22_AdjoutTold.E c0 c1 c2 c3 c4 c5 c6 c7 c8 c9 c10) fuel 6 L22_AdjoutTold.C (endK (L22_AdjoutTold.E c0 c1 c2 c3 c4 c5 c6 c7 c8 c9 c10) [.pure tyB] Try.f3) n (L22_AdjoutTold.mk0 a0 s) = L22_AdjoutTold.l0 c0 c1 c2 c3 c4 c5 c6 c7 c8 c9 c10 fuel a0 n s :=
  loop_iter (fun k0 s => (L22_AdjoutTold.b0_ev c0 c1 c2 c3 c4 c5 c6 c7 c8 c9 c10 fuel k0 a0 s).trans (congrFun (congrFun (congrArg (L22_AdjoutTold.b0 c0 c1 c2 c3 c4 c5 c6 c7 c8 c9 c10 a0) (funext fun x0_1 => funext fun t => L22_AdjoutTold.l1_ev c0 c1 c2 c3 c4 c5 c6 c7 c8 c9 c10 fuel k0 a0 x0_1 fuel t)) (fun t => k0 (L22_AdjoutTold.mk0 a0 t))) s)) n s
theorem L22_AdjoutTold.b_ev (c0 : Z7) (c1 : Z8) (c2 : Z9) (c3 : Z10) (c4 : Z11) (c5 : Z12) (c6 : Z13) (c7 : Z14) (c8 : Z15) (c9 : Z16) (c10 : Unit → Option (Bool × Unit)) (fuel : Nat) (a0 : (List TL22_Ask)) : evalBody (L22_AdjoutTold.E c0 c1 c2 c3 c4 c5 c6 c7 c8 c9 c10) fuel Try.f3 L22_AdjoutTold.C [(.sl tyL22_Ask)] [.pure tyB] (a0, ()) =
    L22_AdjoutTold.b c0 c1 c2 c3 c4 c5 c6 c7 c8 c9 c10 a0 (fun t => loopAt (L22_AdjoutTold.E c0 c1 c2 c3 c4 c5 c6 c7 c8 c9 c10) fuel 6 L22_AdjoutTold.C (endK (L22_AdjoutTold.E c0 c1 c2 c3 c4 c5 c6 c7 c8 c9 c10) [.pure tyB] Try.f3) fuel (L22_AdjoutTold.mk0 a0 t)) := by kernel_rfl
theorem L22_AdjoutTold.ev (c0 : Z7) (c1 : Z8) (c2 : Z9) (c3 : Z10) (c4 : Z11) (c5 : Z12) (c6 : Z13) (c7 : Z14) (c8 : Z15) (c9 : Z16) (c10 : Unit → Option (Bool × Unit)) (fuel : Nat) (a0 : (List TL22_Ask)) : evalBody (L22_AdjoutTold.E c0 c1 c2 c3 c4 c5 c6 c7 c8 c9 c10) fuel Try.f3 L22_AdjoutTold.C [(.sl tyL22_Ask)] [.pure tyB] (a0, ()) = L22_AdjoutTold.f c0 c1 c2 c3 c4 c5 c6 c7 c8 c9 c10 fuel a0 :=
  (L22_AdjoutTold.b_ev c0 c1 c2 c3 c4 c5 c6 c7 c8 c9 c10 fuel a0).trans (congrArg (L22_AdjoutTold.b c0 c1 c2 c3 c4 c5 c6 c7 c8 c9 c10 a0) (funext fun t => L22_AdjoutTold.l0_ev c0 c1 c2 c3 c4 c5 c6 c7 c8 c9 c10 fuel a0 fuel t))
noncomputable def L22_at.E (c0 : Z24) : Env := envOf Try.prog (pick [(23, ⟨[tyPrefix, tyPrefix], [.pure tyB], c0⟩)]) (pick []) (pick [(2, [(0, none), (3, none), (6, none)])])
noncomputable def L22_at.C : Code := Try.f10.body.getD .skip
noncomputable def L22_at.mk0 (a0 : (List TL22_one)) (a1 : TPrefix) (s : (Int × Int × Int)) : St := { tmps := slots 51 0 [(0, (.one (.own 1))), (3, (.one (.ref 2 0 0 0))), (6, (.one (.pure tyI s.1)))], st := [(0, (.ghost [(.one (.own 1)), (.one (.pure tyPrefix a1))])), (1, (.row tyL22_one a0)), (2, (.cells [(.pure tyW s.2.1), (.pure tyI s.2.2)]))], next := 3 }
theorem L22_at.b0_ev (c0 : Z24) (fuel : Nat) (k0 : Z100) (a0 : (List TL22_one)) (a1 : TPrefix) (s : (Int × Int × Int)) :
    bodyAt (L22_at.E c0) fuel 2 L22_at.C (endBy (L22_at.E c0) [.give tyL22_one, .pure tyPrefix] [.fresh tyL22_one, .pure tyI] Try.f10) k0 (L22_at.mk0 a0 a1 s) =
    L22_at.b0 c0 a0 a1 (fun t => k0 (L22_at.mk0 a0 a1 t)) s := by kernel_rfl
theorem L22_at.l0_ev (c0 : Z24) (fuel : Nat) (a0 : (List TL22_one)) (a1 : TPrefix) (n : Nat) (s : (Int × Int × Int)) :
    loopAt (L22_at.E c0) fuel 2 L22_at.C (endBy (L22_at.E c0) [.give tyL22_one, .pure tyPrefix] [.fresh tyL22_one, .pure tyI] Try.f10) n (L22_at.mk0 a0 a1 s) = L22_at.l0 c0 fuel a0 a1 n s :=
  loop_iter (fun k0 s => (L22_at.b0_ev c0 fuel k0 a0 a1 s)) n s
theorem L22_at.b_ev (c0 : Z24) (fuel : Nat) (a0 : (List TL22_one)) (a1 : TPrefix) : evalBy (L22_at.E c0) fuel Try.f10 L22_at.C [.give tyL22_one, .pure tyPrefix] [.fresh tyL22_one, .pure tyI] (some a0, a1, ()) =
    L22_at.b c0 a0 a1 (fun t => loopAt (L22_at.E c0) fuel 2 L22_at.C (endBy (L22_at.E c0) [.give tyL22_one, .pure tyPrefix] [.fresh tyL22_one, .pure tyI] Try.f10) fuel (L22_at.mk0 a0 a1 t)) := by kernel_rfl
theorem L22_at.ev (c0 : Z24) (fuel : Nat) (a0 : (List TL22_one)) (a1 : TPrefix) : evalBy (L22_at.E c0) fuel Try.f10 L22_at.C [.give tyL22_one, .pure tyPrefix] [.fresh tyL22_one, .pure tyI] (some a0, a1, ()) = L22_at.f c0 fuel a0 a1 :=
  (L22_at.b_ev c0 fuel a0 a1).trans (congrArg (L22_at.b c0 a0 a1) (funext fun t => L22_at.l0_ev c0 fuel a0 a1 fuel t))
noncomputable def L22_known.E (c0 : Z7) (c1 : Z9) (c2 : Z10) (c3 : Z15) (c4 : Z12) (c5 : Z11) : Env := envOf Try.prog (pick [(7, ⟨[tyAttrs, tyW], [.pure tyAttrs], c1⟩), (22, ⟨[(.box tyadjout_Out)], [.fresh tyPrefix], c3⟩)]) (pick [(4, extBy ⟨[], [.deep (.box dtOut)], c0⟩), (5, extBy ⟨[.deep (.box dtOut), .pure tyPrefix, .pure tyAttrs], [.pure tyI], c2⟩), (9, extBy ⟨[.deep (.box dtOut)], [.fresh tyadjout_Change], c4⟩), (8, extBy ⟨[.deep (.box dtOut), .pure tyPrefix], [.pure tyB], c5⟩)]) (pick [])
noncomputable def L22_known.C : Code := Try.f14.body.getD .skip
theorem L22_known.b_ev (c0 : Z7) (c1 : Z9) (c2 : Z10) (c3 : Z15) (c4 : Z12) (c5 : Z11) (fuel : Nat) : evalBody (L22_known.E c0 c1 c2 c3 c4 c5) fuel Try.f14 L22_known.C [] [.pure tyB] (()) =
    L22_known.b c0 c1 c2 c3 c4 c5 := by kernel_rfl
theorem L22_known.ev (c0 : Z7) (c1 : Z9) (c2 : Z10) (c3 : Z15) (c4 : Z12) (c5 : Z11) (fuel : Nat) : evalBody (L22_known.E c0 c1 c2 c3 c4 c5) fuel Try.f14 L22_known.C [] [.pure tyB] (()) = L22_known.f c0 c1 c2 c3 c4 c5 fuel :=
  (L22_known.b_ev c0 c1 c2 c3 c4 c5 fuel)
noncomputable def L22_prefix.E (c0 : Z1) : Env := envOf Try.prog (pick [(18, ⟨[tyW, tyI], [.pure tyPrefix], c0⟩)]) (pick []) (pick [])
noncomputable def L22_prefix.C : Code := Try.f6.body.getD .skip
theorem L22_prefix.b_ev (c0 : Z1) (fuel : Nat) (a0 : TL22_Ask) : evalBody (L22_prefix.E c0) fuel Try.f6 L22_prefix.C [tyL22_Ask] [.pure tyPrefix] (a0, ()) =
    L22_prefix.b c0 a0 := by kernel_rfl
theorem L22_prefix.ev (c0 : Z1) (fuel : Nat) (a0 : TL22_Ask) : evalBody (L22_prefix.E c0) fuel Try.f6 L22_prefix.C [tyL22_Ask] [.pure tyPrefix] (a0, ()) = L22_prefix.f c0 fuel a0 :=
  (L22_prefix.b_ev c0 fuel a0)
noncomputable def Ref1_Less.E (c0 : Z26) : Env := envOf Try.prog (pick [(40, ⟨[tyPrefix], [.pure tyB], c0⟩)]) (pick []) (pick [])
noncomputable def Ref1_Less.C : Code := Try.f23.body.getD .skip
theorem Ref1_Less.b_ev (c0 : Z26) (fuel : Nat) (a0 : TPrefix) (a1 : TPrefix) : evalBody (Ref1_Less.E c0) fuel Try.f23 Ref1_Less.C [tyPrefix, tyPrefix] [.pure tyB] (a0, a1, ()) =
    Ref1_Less.b c0 a0 a1 := by kernel_rfl
theorem Ref1_Less.ev (c0 : Z26) (fuel : Nat) (a0 : TPrefix) (a1 : TPrefix) : evalBody (Ref1_Less.E c0) fuel Try.f23 Ref1_Less.C [tyPrefix, tyPrefix] [.pure tyB] (a0, a1, ()) = Ref1_Less.f c0 fuel a0 a1 :=
  (Ref1_Less.b_ev c0 fuel a0 a1)
noncomputable def Ref1_Mask.E : Env := envOf Try.prog (pick []) (pick []) (pick [(3, [(0, none), (3, none), (4, none)])])
noncomputable def Ref1_Mask.C : Code := Try.f52.body.getD .skip
noncomputable def Ref1_Mask.mk0 (a0 : Int) (s : (Int × Int)) : St := { tmps := slots 21 0 [(0, (.one (.pure tyI a0))), (3, (.one (.pure tyW s.1))), (4, (.one (.pure tyI s.2)))], st := [], next := 0 }
theorem Ref1_Mask.b0_ev (fuel : Nat) (k0 : St → Option (Int × Unit)) (a0 : Int) (s : (Int × Int)) :
    bodyAt (Ref1_Mask.E) fuel 3 Ref1_Mask.C (endK (Ref1_Mask.E) [.pure tyW] Try.f52) k0 (Ref1_Mask.mk0 a0 s) =
    Ref1_Mask.b0 a0 (fun t => k0 (Ref1_Mask.mk0 a0 t)) s := by kernel_rfl
theorem Ref1_Mask.l0_ev (fuel : Nat) (a0 : Int) (n : Nat) (s : (Int × Int)) :
    loopAt (Ref1_Mask.E) fuel 3 Ref1_Mask.C (endK (Ref1_Mask.E) [.pure tyW] Try.f52) n (Ref1_Mask.mk0 a0 s) = Ref1_Mask.l0 fuel a0 n s :=
  loop_iter (fun k0 s => (Ref1_Mask.b0_ev fuel k0 a0 s)) n s
theorem Ref1_Mask.b_ev (fuel : Nat) (a0 : Int) : evalBody (Ref1_Mask.E) fuel Try.f52 Ref1_Mask.C [tyI] [.pure tyW] (a0, ()) =
    Ref1_Mask.b a0 (fun t => loopAt (Ref1_Mask.E) fuel 3 Ref1_Mask.C (endK (Ref1_Mask.E) [.pure tyW] Try.f52) fuel (Ref1_Mask.mk0 a0 t)) := by kernel_rfl
theorem Ref1_Mask.ev (fuel : Nat) (a0 : Int) : evalBody (Ref1_Mask.E) fuel Try.f52 Ref1_Mask.C [tyI] [.pure tyW] (a0, ()) = Ref1_Mask.f fuel a0 :=
  (Ref1_Mask.b_ev fuel a0).trans (congrArg (Ref1_Mask.b a0) (funext fun t => Ref1_Mask.l0_ev fuel a0 fuel t))
noncomputable def Ref1_Of.E (c0 : Int × Unit → Option (Int × Unit)) : Env := envOf Try.prog (pick [(52, ⟨[tyI], [.pure tyW], c0⟩)]) (pick []) (pick [])
noncomputable def Ref1_Of.C : Code := Try.f37.body.getD .skip
theorem Ref1_Of.b_ev (c0 : Int × Unit → Option (Int × Unit)) (fuel : Nat) (a0 : Int) (a1 : Int) : evalBody (Ref1_Of.E c0) fuel Try.f37 Ref1_Of.C [tyW, tyI] [.pure tyPrefix] (a0, a1, ()) =
    Ref1_Of.b c0 a0 a1 := by kernel_rfl
theorem Ref1_Of.ev (c0 : Int × Unit → Option (Int × Unit)) (fuel : Nat) (a0 : Int) (a1 : Int) : evalBody (Ref1_Of.E c0) fuel Try.f37 Ref1_Of.C [tyW, tyI] [.pure tyPrefix] (a0, a1, ()) = Ref1_Of.f c0 fuel a0 a1 :=
  (Ref1_Of.b_ev c0 fuel a0 a1)
noncomputable def Ref1_Right.E (c0 : Int × Unit → Option (Int × Unit)) : Env := envOf Try.prog (pick [(52, ⟨[tyI], [.pure tyW], c0⟩)]) (pick []) (pick [])
noncomputable def Ref1_Right.C : Code := Try.f40.body.getD .skip
theorem Ref1_Right.b_ev (c0 : Int × Unit → Option (Int × Unit)) (fuel : Nat) (a0 : TPrefix) : evalBody (Ref1_Right.E c0) fuel Try.f40 Ref1_Right.C [tyPrefix] [.pure tyB] (a0, ()) =
    Ref1_Right.b c0 a0 := by kernel_rfl
theorem Ref1_Right.ev (c0 : Int × Unit → Option (Int × Unit)) (fuel : Nat) (a0 : TPrefix) : evalBody (Ref1_Right.E c0) fuel Try.f40 Ref1_Right.C [tyPrefix] [.pure tyB] (a0, ()) = Ref1_Right.f c0 fuel a0 :=
  (Ref1_Right.b_ev c0 fuel a0)
noncomputable def Ref6_Copy.E : Env := envOf Try.prog (pick []) (pick []) (pick [(3, [(0, none), (3, some tySeg), (4, none)])])
noncomputable def Ref6_Copy.C : Code := Try.f56.body.getD .skip
noncomputable def Ref6_Copy.mk0 (a0 : (List TSeg)) (s : (Int × (List TSeg))) : St := { tmps := slots 28 0 [(0, (.one (.pure (.sl tySeg) a0))), (3, (.one (.own 0))), (4, (.one (.pure tyI s.1)))], st := [(0, (.row tySeg s.2))], next := 1 }
theorem Ref6_Copy.b0_ev (fuel : Nat) (k0 : St → Option (List TSeg × Unit)) (a0 : (List TSeg)) (s : (Int × (List TSeg))) :
    bodyAt (Ref6_Copy.E) fuel 3 Ref6_Copy.C (endK (Ref6_Copy.E) [.fresh tySeg] Try.f56) k0 (Ref6_Copy.mk0 a0 s) =
    Ref6_Copy.b0 a0 (fun t => k0 (Ref6_Copy.mk0 a0 t)) s := by kernel_rfl
theorem Ref6_Copy.l0_ev (fuel : Nat) (a0 : (List TSeg)) (n : Nat) (s : (Int × (List TSeg))) :
    loopAt (Ref6_Copy.E) fuel 3 Ref6_Copy.C (endK (Ref6_Copy.E) [.fresh tySeg] Try.f56) n (Ref6_Copy.mk0 a0 s) = Ref6_Copy.l0 fuel a0 n s :=
  loop_iter (fun k0 s => (Ref6_Copy.b0_ev fuel k0 a0 s)) n s
theorem Ref6_Copy.b_ev (fuel : Nat) (a0 : (List TSeg)) : evalBody (Ref6_Copy.E) fuel Try.f56 Ref6_Copy.C [(.sl tySeg)] [.fresh tySeg] (a0, ()) =
    Ref6_Copy.b a0 (fun t => loopAt (Ref6_Copy.E) fuel 3 Ref6_Copy.C (endK (Ref6_Copy.E) [.fresh tySeg] Try.f56) fuel (Ref6_Copy.mk0 a0 t)) := by kernel_rfl
theorem Ref6_Copy.ev (fuel : Nat) (a0 : (List TSeg)) : evalBody (Ref6_Copy.E) fuel Try.f56 Ref6_Copy.C [(.sl tySeg)] [.fresh tySeg] (a0, ()) = Ref6_Copy.f fuel a0 :=
  (Ref6_Copy.b_ev fuel a0).trans (congrArg (Ref6_Copy.b a0) (funext fun t => Ref6_Copy.l0_ev fuel a0 fuel t))
noncomputable def Ref6_Order.E (c0 : Bool × Unit → Option (Int × Unit)) : Env := envOf Try.prog (pick [(57, ⟨[tyB], [.pure tyI], c0⟩)]) (pick []) (pick [(2, [(0, none), (1, none), (5, none)]), (9, [(0, none), (1, none), (5, none), (6, none)])])
noncomputable def Ref6_Order.C : Code := Try.f43.body.getD .skip
noncomputable def Ref6_Order.mk0 (a0 : (List TSeg)) (a1 : (List TSeg)) (s : Int) : St := { tmps := slots 125 0 [(0, (.one (.pure (.sl tySeg) a0))), (1, (.one (.pure (.sl tySeg) a1))), (5, (.one (.pure tyI s)))], st := [], next := 0 }
noncomputable def Ref6_Order.mk1 (a0 : (List TSeg)) (a1 : (List TSeg)) (x0_2 : Int) (s : Int) : St := { tmps := slots 125 0 [(0, (.one (.pure (.sl tySeg) a0))), (1, (.one (.pure (.sl tySeg) a1))), (5, (.one (.pure tyI x0_2))), (6, (.one (.pure tyI s)))], st := [], next := 0 }
noncomputable def Ref6_Order.C0 (c0 : Bool × Unit → Option (Int × Unit)) (fuel : Nat) : Code := codeAt (Ref6_Order.E c0) fuel 2 Ref6_Order.C
noncomputable def Ref6_Order.K0 (c0 : Bool × Unit → Option (Int × Unit)) (fuel : Nat) (k0 : St → Option (Int × Unit)) : Ex → St → Option (Int × Unit) := contAt (Ref6_Order.E c0) fuel 2 Ref6_Order.C (endK (Ref6_Order.E c0) [.pure tyI] Try.f43) k0
theorem Ref6_Order.b1_ev (c0 : Bool × Unit → Option (Int × Unit)) (fuel : Nat) (k0 : St → Option (Int × Unit)) (k1 : St → Option (Int × Unit)) (a0 : (List TSeg)) (a1 : (List TSeg)) (x0_2 : Int) (s : Int) :
    bodyAt (Ref6_Order.E c0) fuel 9 (Ref6_Order.C0 c0 fuel) (Ref6_Order.K0 c0 fuel k0) k1 (Ref6_Order.mk1 a0 a1 x0_2 s) =
    Ref6_Order.b1 c0 a0 a1 x0_2 (fun t => k0 (Ref6_Order.mk0 a0 a1 t)) (fun t => k1 (Ref6_Order.mk1 a0 a1 x0_2 t)) s := by kernel_rfl
theorem Ref6_Order.l1_ev (c0 : Bool × Unit → Option (Int × Unit)) (fuel : Nat) (k0 : St → Option (Int × Unit)) (a0 : (List TSeg)) (a1 : (List TSeg)) (x0_2 : Int) (n : Nat) (s : Int) :
    loopAt (Ref6_Order.E c0) fuel 9 (Ref6_Order.C0 c0 fuel) (Ref6_Order.K0 c0 fuel k0) n (Ref6_Order.mk1 a0 a1 x0_2 s) = Ref6_Order.l1 c0 fuel a0 a1 x0_2 (fun t => k0 (Ref6_Order.mk0 a0 a1 t)) n s :=
  loop_iter (fun k1 s => (Ref6_Order.b1_ev c0 fuel k0 k1 a0 a1 x0_2 s)) n s
theorem Ref6_Order.b0_ev (c0 : Bool × Unit → Option (Int × Unit)) (fuel : Nat) (k0 : St → Option (Int × Unit)) (a0 : (List TSeg)) (a1 : (List TSeg)) (s : Int) :
    bodyAt (Ref6_Order.E c0) fuel 2 Ref6_Order.C (endK (Ref6_Order.E c0) [.pure tyI] Try.f43) k0 (Ref6_Order.mk0 a0 a1 s) =
    Ref6_Order.b0 c0 a0 a1 (fun x0_2 t => loopAt (Ref6_Order.E c0) fuel 9 (Ref6_Order.C0 c0 fuel) (Ref6_Order.K0 c0 fuel k0) fuel (Ref6_Order.mk1 a0 a1 x0_2 t)) (fun t => k0 (Ref6_Order.mk0 a0 a1 t)) s := by kernel_rfl
theorem Ref6_Order.l0_ev (c0 : Bool × Unit → Option (Int × Unit)) (fuel : Nat) (a0 : (List TSeg)) (a1 : (List TSeg)) (n : Nat) (s : Int) :
    loopAt (Ref6_Order.E c0) fuel 2 Ref6_Order.C (endK (Ref6_Order.E c0) [.pure tyI] Try.f43) n (Ref6_Order.mk0 a0 a1 s) = Ref6_Order.l0 c0 fuel a0 a1 n s :=
  loop_iter (fun k0 s => (Ref6_Order.b0_ev c0 fuel k0 a0 a1 s).trans (congrFun (congrFun (congrArg (Ref6_Order.b0 c0 a0 a1) (funext fun x0_2 => funext fun t => Ref6_Order.l1_ev c0 fuel k0 a0 a1 x0_2 fuel t)) (fun t => k0 (Ref6_Order.mk0 a0 a1 t))) s)) n s
theorem Ref6_Order.b_ev (c0 : Bool × Unit → Option (Int × Unit)) (fuel : Nat) (a0 : (List TSeg)) (a1 : (List TSeg)) : evalBody (Ref6_Order.E c0) fuel Try.f43 Ref6_Order.C [(.sl tySeg), (.sl tySeg)] [.pure tyI] (a0, a1, ()) =
    Ref6_Order.b c0 a0 a1 (fun t => loopAt (Ref6_Order.E c0) fuel 2 Ref6_Order.C (endK (Ref6_Order.E c0) [.pure tyI] Try.f43) fuel (Ref6_Order.mk0 a0 a1 t)) := by kernel_rfl
theorem Ref6_Order.ev (c0 : Bool × Unit → Option (Int × Unit)) (fuel : Nat) (a0 : (List TSeg)) (a1 : (List TSeg)) : evalBody (Ref6_Order.E c0) fuel Try.f43 Ref6_Order.C [(.sl tySeg), (.sl tySeg)] [.pure tyI] (a0, a1, ()) = Ref6_Order.f c0 fuel a0 a1 :=
  (Ref6_Order.b_ev c0 fuel a0 a1).trans (congrArg (Ref6_Order.b c0 a0 a1) (funext fun t => Ref6_Order.l0_ev c0 fuel a0 a1 fuel t))
noncomputable def Ref6_side.E : Env := envOf Try.prog (pick []) (pick []) (pick [])
noncomputable def Ref6_side.C : Code := Try.f57.body.getD .skip
theorem Ref6_side.b_ev (fuel : Nat) (a0 : Bool) : evalBody (Ref6_side.E) fuel Try.f57 Ref6_side.C [tyB] [.pure tyI] (a0, ()) =
    Ref6_side.b a0 := by kernel_rfl
theorem Ref6_side.ev (fuel : Nat) (a0 : Bool) : evalBody (Ref6_side.E) fuel Try.f57 Ref6_side.C [tyB] [.pure tyI] (a0, ()) = Ref6_side.f fuel a0 :=
  (Ref6_side.b_ev fuel a0)
noncomputable def Ref7_Canon.E (c0 : Z28) (c1 : Z2) : Env := envOf Try.prog (pick [(56, ⟨[(.sl tySeg)], [.fresh tySeg], c0⟩)]) (pick [(21, extBy ⟨[.give tyW, .pure tyW], [.fresh tyW], c1⟩)]) (pick [(8, [(1, none), (2, none), (3, some tyW), (4, none)])])
noncomputable def Ref7_Canon.C : Code := Try.f41.body.getD .skip
noncomputable def Ref7_Canon.mk0 (a0 : TAttrs) (s : Z30) : St := { tmps := slots 34 0 [(1, (.one (.ref 0 0 0 0))), (2, (.one (.ref 2 0 0 0))), (3, (.one (.own 3))), (4, (.one (.pure tyI s.1)))], st := [(0, (.cells [(.pure tyI s.2.1), (.own 1), (.pure tyW s.2.2.1), (.pure tyB s.2.2.2.1), (.pure tyW s.2.2.2.2.1), (.pure tyB s.2.2.2.2.2.1), (.pure tyW s.2.2.2.2.2.2.1), (.pure tyB s.2.2.2.2.2.2.2.1), (.pure (.sl tyW) s.2.2.2.2.2.2.2.2.1)])), (1, (.row tySeg s.2.2.2.2.2.2.2.2.2.1)), (2, (.cells [(.pure tyI s.2.2.2.2.2.2.2.2.2.2.1), .nil, (.pure tyW s.2.2.2.2.2.2.2.2.2.2.2.1), (.pure tyB s.2.2.2.2.2.2.2.2.2.2.2.2.1), (.pure tyW s.2.2.2.2.2.2.2.2.2.2.2.2.2.1), (.pure tyB s.2.2.2.2.2.2.2.2.2.2.2.2.2.2.1), (.pure tyW s.2.2.2.2.2.2.2.2.2.2.2.2.2.2.2.1), (.pure tyB s.2.2.2.2.2.2.2.2.2.2.2.2.2.2.2.2.1), .nil])), (3, (.row tyW s.2.2.2.2.2.2.2.2.2.2.2.2.2.2.2.2.2))], next := 4 }
theorem Ref7_Canon.b0_ev (c0 : Z28) (c1 : Z2) (fuel : Nat) (k0 : St → Option (TAttrs × Unit)) (a0 : TAttrs) (s : Z30) :
    bodyAt (Ref7_Canon.E c0 c1) fuel 8 Ref7_Canon.C (endK (Ref7_Canon.E c0 c1) [.pure tyAttrs] Try.f41) k0 (Ref7_Canon.mk0 a0 s) =
    Ref7_Canon.b0 c0 c1 a0 (fun t => k0 (Ref7_Canon.mk0 a0 t)) s := by kernel_rfl
theorem Ref7_Canon.l0_ev (c0 : Z28) (c1 : Z2) (fuel : Nat) (a0 : TAttrs) (n : Nat) (s : Z30) :
    loopAt (Ref7_Canon.E c0 c1) fuel 8 Ref7_Canon.C (endK (Ref7_Canon.E c0 c1) [.pure tyAttrs] Try.f41) n (Ref7_Canon.mk0 a0 s) = Ref7_Canon.l0 c0 c1 fuel a0 n s :=
  loop_iter (fun k0 s => (Ref7_Canon.b0_ev c0 c1 fuel k0 a0 s)) n s
theorem Ref7_Canon.b_ev (c0 : Z28) (c1 : Z2) (fuel : Nat) (a0 : TAttrs) : evalBody (Ref7_Canon.E c0 c1) fuel Try.f41 Ref7_Canon.C [tyAttrs] [.pure tyAttrs] (a0, ()) =
    Ref7_Canon.b c0 c1 a0 (fun t => loopAt (Ref7_Canon.E c0 c1) fuel 8 Ref7_Canon.C (endK (Ref7_Canon.E c0 c1) [.pure tyAttrs] Try.f41) fuel (Ref7_Canon.mk0 a0 t)) := by kernel_rfl
theorem Ref7_Canon.ev (c0 : Z28) (c1 : Z2) (fuel : Nat) (a0 : TAttrs) : evalBody (Ref7_Canon.E c0 c1) fuel Try.f41 Ref7_Canon.C [tyAttrs] [.pure tyAttrs] (a0, ()) = Ref7_Canon.f c0 c1 fuel a0 :=
  (Ref7_Canon.b_ev c0 c1 fuel a0).trans (congrArg (Ref7_Canon.b c0 c1 a0) (funext fun t => Ref7_Canon.l0_ev c0 c1 fuel a0 fuel t))
noncomputable def Ref7_Order.E (c0 : Z31) (c1 : Bool × Unit → Option (Int × Unit)) (c2 : Z32) : Env := envOf Try.prog (pick [(41, ⟨[tyAttrs], [.pure tyAttrs], c0⟩), (42, ⟨[tyB], [.pure tyI], c1⟩), (43, ⟨[(.sl tySeg), (.sl tySeg)], [.pure tyI], c2⟩)]) (pick []) (pick [(20, [(2, none), (3, none), (6, none)])])
noncomputable def Ref7_Order.C : Code := Try.f24.body.getD .skip
noncomputable def Ref7_Order.mk0 (a0 : TAttrs) (a1 : TAttrs) (s : Z34) : St := { tmps := slots 148 0 [(2, (.one (.ref 0 0 0 0))), (3, (.one (.ref 1 0 0 0))), (6, (.one (.pure tyI s.1)))], st := [(0, (.cells [(.pure tyI s.2.1), (.pure (.sl tySeg) s.2.2.1), (.pure tyW s.2.2.2.1), (.pure tyB s.2.2.2.2.1), (.pure tyW s.2.2.2.2.2.1), (.pure tyB s.2.2.2.2.2.2.1), (.pure tyW s.2.2.2.2.2.2.2.1), (.pure tyB s.2.2.2.2.2.2.2.2.1), (.pure (.sl tyW) s.2.2.2.2.2.2.2.2.2.1)])), (1, (.cells [(.pure tyI s.2.2.2.2.2.2.2.2.2.2.1), (.pure (.sl tySeg) s.2.2.2.2.2.2.2.2.2.2.2.1), (.pure tyW s.2.2.2.2.2.2.2.2.2.2.2.2.1), (.pure tyB s.2.2.2.2.2.2.2.2.2.2.2.2.2.1), (.pure tyW s.2.2.2.2.2.2.2.2.2.2.2.2.2.2.1), (.pure tyB s.2.2.2.2.2.2.2.2.2.2.2.2.2.2.2.1), (.pure tyW s.2.2.2.2.2.2.2.2.2.2.2.2.2.2.2.2.1), (.pure tyB s.2.2.2.2.2.2.2.2.2.2.2.2.2.2.2.2.2.1), (.pure (.sl tyW) s.2.2.2.2.2.2.2.2.2.2.2.2.2.2.2.2.2.2)]))], next := 2 }
theorem Ref7_Order.b0_ev (c0 : Z31) (c1 : Bool × Unit → Option (Int × Unit)) (c2 : Z32) (fuel : Nat) (k0 : St → Option (Int × Unit)) (a0 : TAttrs) (a1 : TAttrs) (s : Z34) :
    bodyAt (Ref7_Order.E c0 c1 c2) fuel 20 Ref7_Order.C (endK (Ref7_Order.E c0 c1 c2) [.pure tyI] Try.f24) k0 (Ref7_Order.mk0 a0 a1 s) =
    Ref7_Order.b0 c0 c1 c2 a0 a1 (fun t => k0 (Ref7_Order.mk0 a0 a1 t)) s := by kernel_rfl
theorem Ref7_Order.l0_ev (c0 : Z31) (c1 : Bool × Unit → Option (Int × Unit)) (c2 : Z32) (fuel : Nat) (a0 : TAttrs) (a1 : TAttrs) (n : Nat) (s : Z34) :
    loopAt (Ref7_Order.E c0 c1 c2) fuel 20 Ref7_Order.C (endK (Ref7_Order.E c0 c1 c2) [.pure tyI] Try.f24) n (Ref7_Order.mk0 a0 a1 s) = Ref7_Order.l0 c0 c1 c2 fuel a0 a1 n s :=
  loop_iter (fun k0 s => (Ref7_Order.b0_ev c0 c1 c2 fuel k0 a0 a1 s)) n s
theorem Ref7_Order.b_ev (c0 : Z31) (c1 : Bool × Unit → Option (Int × Unit)) (c2 : Z32) (fuel : Nat) (a0 : TAttrs) (a1 : TAttrs) : evalBody (Ref7_Order.E c0 c1 c2) fuel Try.f24 Ref7_Order.C [tyAttrs, tyAttrs] [.pure tyI] (a0, a1, ()) =
    Ref7_Order.b c0 c1 c2 a0 a1 (fun t => loopAt (Ref7_Order.E c0 c1 c2) fuel 20 Ref7_Order.C (endK (Ref7_Order.E c0 c1 c2) [.pure tyI] Try.f24) fuel (Ref7_Order.mk0 a0 a1 t)) := by kernel_rfl
theorem Ref7_Order.ev (c0 : Z31) (c1 : Bool × Unit → Option (Int × Unit)) (c2 : Z32) (fuel : Nat) (a0 : TAttrs) (a1 : TAttrs) : evalBody (Ref7_Order.E c0 c1 c2) fuel Try.f24 Ref7_Order.C [tyAttrs, tyAttrs] [.pure tyI] (a0, a1, ()) = Ref7_Order.f c0 c1 c2 fuel a0 a1 :=
  (Ref7_Order.b_ev c0 c1 c2 fuel a0 a1).trans (congrArg (Ref7_Order.b c0 c1 c2 a0 a1) (funext fun t => Ref7_Order.l0_ev c0 c1 c2 fuel a0 a1 fuel t))
noncomputable def Ref7_Put.E : Env := envOf Try.prog (pick []) (pick []) (pick [(2, [(0, none), (1, none), (5, none)])])
noncomputable def Ref7_Put.C : Code := Try.f21.body.getD .skip
noncomputable def Ref7_Put.mk0 (a0 : (List Int)) (a1 : Int) (s : Int) : St := { tmps := slots 45 0 [(0, (.one (.own 1))), (1, (.one (.pure tyW a1))), (5, (.one (.pure tyI s)))], st := [(0, (.ghost [(.one (.own 1)), (.one (.pure tyW a1))])), (1, (.row tyW a0))], next := 2 }
theorem Ref7_Put.b0_ev (fuel : Nat) (k0 : Z101) (a0 : (List Int)) (a1 : Int) (s : Int) :
    bodyAt (Ref7_Put.E) fuel 2 Ref7_Put.C (endBy (Ref7_Put.E) [.give tyW, .pure tyW] [.fresh tyW] Try.f21) k0 (Ref7_Put.mk0 a0 a1 s) =
    Ref7_Put.b0 a0 a1 (fun t => k0 (Ref7_Put.mk0 a0 a1 t)) s := by kernel_rfl
theorem Ref7_Put.l0_ev (fuel : Nat) (a0 : (List Int)) (a1 : Int) (n : Nat) (s : Int) :
    loopAt (Ref7_Put.E) fuel 2 Ref7_Put.C (endBy (Ref7_Put.E) [.give tyW, .pure tyW] [.fresh tyW] Try.f21) n (Ref7_Put.mk0 a0 a1 s) = Ref7_Put.l0 fuel a0 a1 n s :=
  loop_iter (fun k0 s => (Ref7_Put.b0_ev fuel k0 a0 a1 s)) n s
theorem Ref7_Put.b_ev (fuel : Nat) (a0 : (List Int)) (a1 : Int) : evalBy (Ref7_Put.E) fuel Try.f21 Ref7_Put.C [.give tyW, .pure tyW] [.fresh tyW] (some a0, a1, ()) =
    Ref7_Put.b a0 a1 (fun t => loopAt (Ref7_Put.E) fuel 2 Ref7_Put.C (endBy (Ref7_Put.E) [.give tyW, .pure tyW] [.fresh tyW] Try.f21) fuel (Ref7_Put.mk0 a0 a1 t)) := by kernel_rfl
theorem Ref7_Put.ev (fuel : Nat) (a0 : (List Int)) (a1 : Int) : evalBy (Ref7_Put.E) fuel Try.f21 Ref7_Put.C [.give tyW, .pure tyW] [.fresh tyW] (some a0, a1, ()) = Ref7_Put.f fuel a0 a1 :=
  (Ref7_Put.b_ev fuel a0 a1).trans (congrArg (Ref7_Put.b a0 a1) (funext fun t => Ref7_Put.l0_ev fuel a0 a1 fuel t))
noncomputable def Ref7_Same.E (c0 : Z36) : Env := envOf Try.prog (pick [(24, ⟨[tyAttrs, tyAttrs], [.pure tyI], c0⟩)]) (pick []) (pick [])
noncomputable def Ref7_Same.C : Code := Try.f11.body.getD .skip
theorem Ref7_Same.b_ev (c0 : Z36) (fuel : Nat) (a0 : TAttrs) (a1 : TAttrs) : evalBody (Ref7_Same.E c0) fuel Try.f11 Ref7_Same.C [tyAttrs, tyAttrs] [.pure tyB] (a0, a1, ()) =
    Ref7_Same.b c0 a0 a1 := by kernel_rfl
theorem Ref7_Same.ev (c0 : Z36) (fuel : Nat) (a0 : TAttrs) (a1 : TAttrs) : evalBody (Ref7_Same.E c0) fuel Try.f11 Ref7_Same.C [tyAttrs, tyAttrs] [.pure tyB] (a0, a1, ()) = Ref7_Same.f c0 fuel a0 a1 :=
  (Ref7_Same.b_ev c0 fuel a0 a1)
noncomputable def Ref7_side.E : Env := envOf Try.prog (pick []) (pick []) (pick [])
noncomputable def Ref7_side.C : Code := Try.f42.body.getD .skip
theorem Ref7_side.b_ev (fuel : Nat) (a0 : Bool) : evalBody (Ref7_side.E) fuel Try.f42 Ref7_side.C [tyB] [.pure tyI] (a0, ()) =
    Ref7_side.b a0 := by kernel_rfl
theorem Ref7_side.ev (fuel : Nat) (a0 : Bool) : evalBody (Ref7_side.E) fuel Try.f42 Ref7_side.C [tyB] [.pure tyI] (a0, ()) = Ref7_side.f fuel a0 :=
  (Ref7_side.b_ev fuel a0)
noncomputable def addr_Cmp.E (c0 : Z24) : Env := envOf Try.prog (pick [(46, ⟨[tyPrefix, tyPrefix], [.pure tyB], c0⟩)]) (pick []) (pick [])
noncomputable def addr_Cmp.C : Code := Try.f27.body.getD .skip
theorem addr_Cmp.b_ev (c0 : Z24) (fuel : Nat) (a0 : TPrefix) (a1 : TPrefix) : evalBody (addr_Cmp.E c0) fuel Try.f27 addr_Cmp.C [tyPrefix, tyPrefix] [.pure tyI] (a0, a1, ()) =
    addr_Cmp.b c0 a0 a1 := by kernel_rfl
theorem addr_Cmp.ev (c0 : Z24) (fuel : Nat) (a0 : TPrefix) (a1 : TPrefix) : evalBody (addr_Cmp.E c0) fuel Try.f27 addr_Cmp.C [tyPrefix, tyPrefix] [.pure tyI] (a0, a1, ()) = addr_Cmp.f c0 fuel a0 a1 :=
  (addr_Cmp.b_ev c0 fuel a0 a1)
noncomputable def addr_Less.E (c0 : Z26) : Env := envOf Try.prog (pick [(15, ⟨[tyPrefix], [.pure tyB], c0⟩)]) (pick []) (pick [])
noncomputable def addr_Less.C : Code := Try.f46.body.getD .skip
theorem addr_Less.b_ev (c0 : Z26) (fuel : Nat) (a0 : TPrefix) (a1 : TPrefix) : evalBody (addr_Less.E c0) fuel Try.f46 addr_Less.C [tyPrefix, tyPrefix] [.pure tyB] (a0, a1, ()) =
    addr_Less.b c0 a0 a1 := by kernel_rfl
theorem addr_Less.ev (c0 : Z26) (fuel : Nat) (a0 : TPrefix) (a1 : TPrefix) : evalBody (addr_Less.E c0) fuel Try.f46 addr_Less.C [tyPrefix, tyPrefix] [.pure tyB] (a0, a1, ()) = addr_Less.f c0 fuel a0 a1 :=
  (addr_Less.b_ev c0 fuel a0 a1)
noncomputable def addr_Mask.E : Env := envOf Try.prog (pick []) (pick []) (pick [])
noncomputable def addr_Mask.C : Code := Try.f29.body.getD .skip
theorem addr_Mask.b_ev (fuel : Nat) (a0 : Int) : evalBody (addr_Mask.E) fuel Try.f29 addr_Mask.C [tyI] [.pure tyW] (a0, ()) =
    addr_Mask.b a0 := by kernel_rfl
theorem addr_Mask.ev (fuel : Nat) (a0 : Int) : evalBody (addr_Mask.E) fuel Try.f29 addr_Mask.C [tyI] [.pure tyW] (a0, ()) = addr_Mask.f fuel a0 :=
  (addr_Mask.b_ev fuel a0)
noncomputable def addr_Right.E (c0 : Int × Unit → Option (Int × Unit)) : Env := envOf Try.prog (pick [(29, ⟨[tyI], [.pure tyW], c0⟩)]) (pick []) (pick [])
noncomputable def addr_Right.C : Code := Try.f15.body.getD .skip
theorem addr_Right.b_ev (c0 : Int × Unit → Option (Int × Unit)) (fuel : Nat) (a0 : TPrefix) : evalBody (addr_Right.E c0) fuel Try.f15 addr_Right.C [tyPrefix] [.pure tyB] (a0, ()) =
    addr_Right.b c0 a0 := by kernel_rfl
theorem addr_Right.ev (c0 : Int × Unit → Option (Int × Unit)) (fuel : Nat) (a0 : TPrefix) : evalBody (addr_Right.E c0) fuel Try.f15 addr_Right.C [tyPrefix] [.pure tyB] (a0, ()) = addr_Right.f c0 fuel a0 :=
  (addr_Right.b_ev c0 fuel a0)
noncomputable def adjout_New.E : Env := envOf Try.prog (pick []) (pick []) (pick [])
noncomputable def adjout_New.C : Code := Try.f4.body.getD .skip
theorem adjout_New.b_ev (fuel : Nat) : evalBy (adjout_New.E) fuel Try.f4 adjout_New.C [] [.deep (.box dtOut)] (()) =
    adjout_New.b := by kernel_rfl
theorem adjout_New.ev (fuel : Nat) : evalBy (adjout_New.E) fuel Try.f4 adjout_New.C [] [.deep (.box dtOut)] (()) = adjout_New.f fuel :=
  (adjout_New.b_ev fuel)
noncomputable def adjout_Out_All.E : Env := envOf Try.prog (pick []) (pick [(26, capExt 45), (25, sokExt 45 27 tyAttrs)]) (pick [])
noncomputable def adjout_Out_All.C : Code := Try.f12.body.getD .skip
theorem adjout_Out_All.b_ev (fuel : Nat) (a0 : Tadjout_Out) : evalBody (adjout_Out_All.E) fuel Try.f12 adjout_Out_All.C [(.box tyadjout_Out)] [.fresh tyPrefix] (a0, ()) =
    adjout_Out_All.b a0 := by kernel_rfl
theorem adjout_Out_All.ev (fuel : Nat) (a0 : Tadjout_Out) : evalBody (adjout_Out_All.E) fuel Try.f12 adjout_Out_All.C [(.box tyadjout_Out)] [.fresh tyPrefix] (a0, ()) = adjout_Out_All.f fuel a0 :=
  (adjout_Out_All.b_ev fuel a0)
noncomputable def adjout_Out_Lack.E : Env := envOf Try.prog (pick []) (pick []) (pick [])
noncomputable def adjout_Out_Lack.C : Code := Try.f8.body.getD .skip
theorem adjout_Out_Lack.b_ev (fuel : Nat) (a0 : DOut) (a1 : TPrefix) : evalBy (adjout_Out_Lack.E) fuel Try.f8 adjout_Out_Lack.C [.deep (.box dtOut), .pure tyPrefix] [.pure tyB] (a0, a1, ()) =
    adjout_Out_Lack.b a0 a1 := by kernel_rfl
theorem adjout_Out_Lack.ev (fuel : Nat) (a0 : DOut) (a1 : TPrefix) : evalBy (adjout_Out_Lack.E) fuel Try.f8 adjout_Out_Lack.C [.deep (.box dtOut), .pure tyPrefix] [.pure tyB] (a0, a1, ()) = adjout_Out_Lack.f fuel a0 a1 :=
  (adjout_Out_Lack.b_ev fuel a0 a1)
noncomputable def adjout_Out_Pending.E (c0 : Z37) (c1 : Z38) : Env := envOf Try.prog (pick [(38, ⟨[(.box tyadjout_Out), tyPrefix], [.pure tyB], c0⟩)]) (pick [(39, extBy ⟨[.row tyPrefix, .fn 27 []], [], c1⟩)]) (pick [(3, [(0, none), (3, some tyPrefix), (12, none)]), (8, [(0, none), (3, some tyPrefix), (28, none)])])
noncomputable def adjout_Out_Pending.C : Code := Try.f22.body.getD .skip
noncomputable def adjout_Out_Pending.mk0 (a0 : Tadjout_Out) (s : Z40) : St := { tmps := slots 51 0 [(0, (.one (.pure (.box tyadjout_Out) a0))), (3, (.one (.own 0))), (12, (.one (.own 1)))], st := [(0, (.row tyPrefix s.1)), (1, (.iter tyPrefix tyAttrs s.2.1 s.2.2.1 s.2.2.2))], next := 2 }
noncomputable def adjout_Out_Pending.mk1 (a0 : Tadjout_Out) (s : Z40) : St := { tmps := slots 51 0 [(0, (.one (.pure (.box tyadjout_Out) a0))), (3, (.one (.own 0))), (28, (.one (.own 1)))], st := [(0, (.row tyPrefix s.1)), (1, (.iter tyPrefix tyAttrs s.2.1 s.2.2.1 s.2.2.2))], next := 2 }
theorem adjout_Out_Pending.b1_ev (c0 : Z37) (c1 : Z38) (fuel : Nat) (k1 : St → Option (List TPrefix × Unit)) (a0 : Tadjout_Out) (s : Z40) :
    bodyAt (adjout_Out_Pending.E c0 c1) fuel 8 adjout_Out_Pending.C (endK (adjout_Out_Pending.E c0 c1) [.fresh tyPrefix] Try.f22) k1 (adjout_Out_Pending.mk1 a0 s) =
    adjout_Out_Pending.b1 c0 c1 a0 (fun t => k1 (adjout_Out_Pending.mk1 a0 t)) s := by kernel_rfl
theorem adjout_Out_Pending.l1_ev (c0 : Z37) (c1 : Z38) (fuel : Nat) (a0 : Tadjout_Out) (n : Nat) (s : Z40) :
    loopAt (adjout_Out_Pending.E c0 c1) fuel 8 adjout_Out_Pending.C (endK (adjout_Out_Pending.E c0 c1) [.fresh tyPrefix] Try.f22) n (adjout_Out_Pending.mk1 a0 s) = adjout_Out_Pending.l1 c0 c1 fuel a0 n s :=
  loop_iter (fun k1 s => (adjout_Out_Pending.b1_ev c0 c1 fuel k1 a0 s)) n s
theorem adjout_Out_Pending.b0_ev (c0 : Z37) (c1 : Z38) (fuel : Nat) (k0 : St → Option (List TPrefix × Unit)) (a0 : Tadjout_Out) (s : Z40) :
    bodyAt (adjout_Out_Pending.E c0 c1) fuel 3 adjout_Out_Pending.C (endK (adjout_Out_Pending.E c0 c1) [.fresh tyPrefix] Try.f22) k0 (adjout_Out_Pending.mk0 a0 s) =
    adjout_Out_Pending.b0 c0 c1 a0 (fun t => loopAt (adjout_Out_Pending.E c0 c1) fuel 8 adjout_Out_Pending.C (endK (adjout_Out_Pending.E c0 c1) [.fresh tyPrefix] Try.f22) fuel (adjout_Out_Pending.mk1 a0 t)) (fun t => k0 (adjout_Out_Pending.mk0 a0 t)) s := by kernel_rfl
theorem adjout_Out_Pending.l0_ev (c0 : Z37) (c1 : Z38) (fuel : Nat) (a0 : Tadjout_Out) (n : Nat) (s : Z40) :
    loopAt (adjout_Out_Pending.E c0 c1) fuel 3 adjout_Out_Pending.C (endK (adjout_Out_Pending.E c0 c1) [.fresh tyPrefix] Try.f22) n (adjout_Out_Pending.mk0 a0 s) = adjout_Out_Pending.l0 c0 c1 fuel a0 n s :=
  loop_iter (fun k0 s => (adjout_Out_Pending.b0_ev c0 c1 fuel k0 a0 s).trans (congrFun (congrFun (congrArg (adjout_Out_Pending.b0 c0 c1 a0) (funext fun t => adjout_Out_Pending.l1_ev c0 c1 fuel a0 fuel t)) (fun t => k0 (adjout_Out_Pending.mk0 a0 t))) s)) n s
theorem adjout_Out_Pending.b_ev (c0 : Z37) (c1 : Z38) (fuel : Nat) (a0 : Tadjout_Out) : evalBody (adjout_Out_Pending.E c0 c1) fuel Try.f22 adjout_Out_Pending.C [(.box tyadjout_Out)] [.fresh tyPrefix] (a0, ()) =
    adjout_Out_Pending.b c0 c1 a0 (fun t => loopAt (adjout_Out_Pending.E c0 c1) fuel 3 adjout_Out_Pending.C (endK (adjout_Out_Pending.E c0 c1) [.fresh tyPrefix] Try.f22) fuel (adjout_Out_Pending.mk0 a0 t)) := by kernel_rfl
theorem adjout_Out_Pending.ev (c0 : Z37) (c1 : Z38) (fuel : Nat) (a0 : Tadjout_Out) : evalBody (adjout_Out_Pending.E c0 c1) fuel Try.f22 adjout_Out_Pending.C [(.box tyadjout_Out)] [.fresh tyPrefix] (a0, ()) = adjout_Out_Pending.f c0 c1 fuel a0 :=
  (adjout_Out_Pending.b_ev c0 c1 fuel a0).trans (congrArg (adjout_Out_Pending.b c0 c1 a0) (funext fun t => adjout_Out_Pending.l0_ev c0 c1 fuel a0 fuel t))
noncomputable def adjout_Out_Take.E (c0 : Z15) (c1 : Z16) (c2 : Z31) : Env := envOf Try.prog (pick [(22, ⟨[(.box tyadjout_Out)], [.fresh tyPrefix], c0⟩), (17, ⟨[tyAttrs], [.pure tyAttrs], c2⟩)]) (pick [(13, extBy ⟨[.deep (.box dtOut), .pure tyPrefix], [.pure tyAttrs, .pure tyB], c1⟩)]) (pick [(3, [(0, none), (3, some tyadjout_Change), (9, none), (10, none), (11, none)])])
noncomputable def adjout_Out_Take.C : Code := Try.f9.body.getD .skip
noncomputable def adjout_Out_Take.mk0 (a0 : DOut) (s : Z42) : St := { tmps := slots 43 0 [(0, (.one (.ref 1 0 0 0))), (3, (.one (.own 4))), (9, (.one (.own 5))), (10, (.one (.pure tyI s.1))), (11, (.one (.pure tyI s.2.1)))], st := [(0, (.ghost [(.one (.ref 1 0 0 0))])), (1, (.cells [(.own 2), (.own 3)])), (2, (.map tyPrefix tyAttrs s.2.2.1 s.2.2.2.1)), (3, (.map tyPrefix tyAttrs s.2.2.2.2.1 s.2.2.2.2.2.1)), (4, (.row tyadjout_Change s.2.2.2.2.2.2.1)), (5, (.row tyPrefix s.2.2.2.2.2.2.2))], next := 6 }
theorem adjout_Out_Take.b0_ev (c0 : Z15) (c1 : Z16) (c2 : Z31) (fuel : Nat) (k0 : Z102) (a0 : DOut) (s : Z42) :
    bodyAt (adjout_Out_Take.E c0 c1 c2) fuel 3 adjout_Out_Take.C (endBy (adjout_Out_Take.E c0 c1 c2) [.deep (.box dtOut)] [.fresh tyadjout_Change] Try.f9) k0 (adjout_Out_Take.mk0 a0 s) =
    adjout_Out_Take.b0 c0 c1 c2 a0 (fun t => k0 (adjout_Out_Take.mk0 a0 t)) s := by kernel_rfl
theorem adjout_Out_Take.l0_ev (c0 : Z15) (c1 : Z16) (c2 : Z31) (fuel : Nat) (a0 : DOut) (n : Nat) (s : Z42) :
    loopAt (adjout_Out_Take.E c0 c1 c2) fuel 3 adjout_Out_Take.C (endBy (adjout_Out_Take.E c0 c1 c2) [.deep (.box dtOut)] [.fresh tyadjout_Change] Try.f9) n (adjout_Out_Take.mk0 a0 s) = adjout_Out_Take.l0 c0 c1 c2 fuel a0 n s :=
  loop_iter (fun k0 s => (adjout_Out_Take.b0_ev c0 c1 c2 fuel k0 a0 s)) n s
theorem adjout_Out_Take.b_ev (c0 : Z15) (c1 : Z16) (c2 : Z31) (fuel : Nat) (a0 : DOut) : evalBy (adjout_Out_Take.E c0 c1 c2) fuel Try.f9 adjout_Out_Take.C [.deep (.box dtOut)] [.fresh tyadjout_Change] (a0, ()) =
    adjout_Out_Take.b c0 c1 c2 a0 (fun t => loopAt (adjout_Out_Take.E c0 c1 c2) fuel 3 adjout_Out_Take.C (endBy (adjout_Out_Take.E c0 c1 c2) [.deep (.box dtOut)] [.fresh tyadjout_Change] Try.f9) fuel (adjout_Out_Take.mk0 a0 t)) := by kernel_rfl
theorem adjout_Out_Take.ev (c0 : Z15) (c1 : Z16) (c2 : Z31) (fuel : Nat) (a0 : DOut) : evalBy (adjout_Out_Take.E c0 c1 c2) fuel Try.f9 adjout_Out_Take.C [.deep (.box dtOut)] [.fresh tyadjout_Change] (a0, ()) = adjout_Out_Take.f c0 c1 c2 fuel a0 :=
  (adjout_Out_Take.b_ev c0 c1 c2 fuel a0).trans (congrArg (adjout_Out_Take.b c0 c1 c2 a0) (funext fun t => adjout_Out_Take.l0_ev c0 c1 c2 fuel a0 fuel t))
noncomputable def adjout_Out_Want.E (c0 : Z26) (c1 : Z43) (c2 : Z31) : Env := envOf Try.prog (pick [(15, ⟨[tyPrefix], [.pure tyB], c0⟩), (16, ⟨[tyAttrs], [.pure tyB], c1⟩), (17, ⟨[tyAttrs], [.pure tyAttrs], c2⟩)]) (pick []) (pick [])
noncomputable def adjout_Out_Want.C : Code := Try.f5.body.getD .skip
theorem adjout_Out_Want.b_ev (c0 : Z26) (c1 : Z43) (c2 : Z31) (fuel : Nat) (a0 : DOut) (a1 : TPrefix) (a2 : TAttrs) : evalBy (adjout_Out_Want.E c0 c1 c2) fuel Try.f5 adjout_Out_Want.C [.deep (.box dtOut), .pure tyPrefix, .pure tyAttrs] [.pure tyI] (a0, a1, a2, ()) =
    adjout_Out_Want.b c0 c1 c2 a0 a1 a2 := by kernel_rfl
theorem adjout_Out_Want.ev (c0 : Z26) (c1 : Z43) (c2 : Z31) (fuel : Nat) (a0 : DOut) (a1 : TPrefix) (a2 : TAttrs) : evalBy (adjout_Out_Want.E c0 c1 c2) fuel Try.f5 adjout_Out_Want.C [.deep (.box dtOut), .pure tyPrefix, .pure tyAttrs] [.pure tyI] (a0, a1, a2, ()) = adjout_Out_Want.f c0 c1 c2 fuel a0 a1 a2 :=
  (adjout_Out_Want.b_ev c0 c1 c2 fuel a0 a1 a2)
noncomputable def adjout_Out_Wanted.E (c0 : Z44) : Env := envOf Try.prog (pick []) (pick [(28, extBy ⟨[.map tyPrefix tyAttrs, .pure tyPrefix], [.pure tyAttrs, .pure tyB], c0⟩)]) (pick [])
noncomputable def adjout_Out_Wanted.C : Code := Try.f13.body.getD .skip
theorem adjout_Out_Wanted.b_ev (c0 : Z44) (fuel : Nat) (a0 : DOut) (a1 : TPrefix) : evalBy (adjout_Out_Wanted.E c0) fuel Try.f13 adjout_Out_Wanted.C [.deep (.box dtOut), .pure tyPrefix] [.pure tyAttrs, .pure tyB] (a0, a1, ()) =
    adjout_Out_Wanted.b c0 a0 a1 := by kernel_rfl
theorem adjout_Out_Wanted.ev (c0 : Z44) (fuel : Nat) (a0 : DOut) (a1 : TPrefix) : evalBy (adjout_Out_Wanted.E c0) fuel Try.f13 adjout_Out_Wanted.C [.deep (.box dtOut), .pure tyPrefix] [.pure tyAttrs, .pure tyB] (a0, a1, ()) = adjout_Out_Wanted.f c0 fuel a0 a1 :=
  (adjout_Out_Wanted.b_ev c0 fuel a0 a1)
noncomputable def adjout_Out_pending.E (c0 : Z14) : Env := envOf Try.prog (pick [(53, ⟨[tyAttrs, tyAttrs], [.pure tyB], c0⟩)]) (pick []) (pick [])
noncomputable def adjout_Out_pending.C : Code := Try.f38.body.getD .skip
theorem adjout_Out_pending.b_ev (c0 : Z14) (fuel : Nat) (a0 : Tadjout_Out) (a1 : TPrefix) : evalBody (adjout_Out_pending.E c0) fuel Try.f38 adjout_Out_pending.C [(.box tyadjout_Out), tyPrefix] [.pure tyB] (a0, a1, ()) =
    adjout_Out_pending.b c0 a0 a1 := by kernel_rfl
theorem adjout_Out_pending.ev (c0 : Z14) (fuel : Nat) (a0 : Tadjout_Out) (a1 : TPrefix) : evalBody (adjout_Out_pending.E c0) fuel Try.f38 adjout_Out_pending.C [(.box tyadjout_Out), tyPrefix] [.pure tyB] (a0, a1, ()) = adjout_Out_pending.f c0 fuel a0 a1 :=
  (adjout_Out_pending.b_ev c0 fuel a0 a1)
noncomputable def adjout_get.E (c0 : Z31) : Env := envOf Try.prog (pick [(17, ⟨[tyAttrs], [.pure tyAttrs], c0⟩)]) (pick []) (pick [])
noncomputable def adjout_get.C : Code := Try.f28.body.getD .skip
theorem adjout_get.b_ev (c0 : Z31) (fuel : Nat) (a0 : Z45) (a1 : TPrefix) : evalBy (adjout_get.E c0) fuel Try.f28 adjout_get.C [.map tyPrefix tyAttrs, .pure tyPrefix] [.pure tyAttrs, .pure tyB] (a0, a1, ()) =
    adjout_get.b c0 a0 a1 := by kernel_rfl
theorem adjout_get.ev (c0 : Z31) (fuel : Nat) (a0 : Z45) (a1 : TPrefix) : evalBy (adjout_get.E c0) fuel Try.f28 adjout_get.C [.map tyPrefix tyAttrs, .pure tyPrefix] [.pure tyAttrs, .pure tyB] (a0, a1, ()) = adjout_get.f c0 fuel a0 a1 :=
  (adjout_get.b_ev c0 fuel a0 a1)
noncomputable def aspath_Cmp.E (c0 : Z46) : Env := envOf Try.prog (pick []) (pick [(97, extBy ⟨[.pure (.sl tySeg), .pure (.sl tySeg), .fn 98 []], [.pure tyI], c0⟩)]) (pick [])
noncomputable def aspath_Cmp.C : Code := Try.f83.body.getD .skip
theorem aspath_Cmp.b_ev (c0 : Z46) (fuel : Nat) (a0 : (List TSeg)) (a1 : (List TSeg)) : evalBody (aspath_Cmp.E c0) fuel Try.f83 aspath_Cmp.C [(.sl tySeg), (.sl tySeg)] [.pure tyI] (a0, a1, ()) =
    aspath_Cmp.b c0 a0 a1 := by kernel_rfl
theorem aspath_Cmp.ev (c0 : Z46) (fuel : Nat) (a0 : (List TSeg)) (a1 : (List TSeg)) : evalBody (aspath_Cmp.E c0) fuel Try.f83 aspath_Cmp.C [(.sl tySeg), (.sl tySeg)] [.pure tyI] (a0, a1, ()) = aspath_Cmp.f c0 fuel a0 a1 :=
  (aspath_Cmp.b_ev c0 fuel a0 a1)
noncomputable def aspath_Copy.E (c0 : Z47) : Env := envOf Try.prog (pick [(48, ⟨[(.sl tyW)], [.fresh tyW], c0⟩)]) (pick []) (pick [(3, [(3, some tySeg), (6, none), (7, none), (8, none)])])
noncomputable def aspath_Copy.C : Code := Try.f33.body.getD .skip
noncomputable def aspath_Copy.mk0 (a0 : (List TSeg)) (s : (Int × Int × (List TSeg))) : St := { tmps := slots 23 0 [(3, (.one (.own 0))), (6, (.one (.pure (.sl tySeg) a0))), (7, (.one (.pure tyI s.1))), (8, (.one (.pure tyI s.2.1)))], st := [(0, (.row tySeg s.2.2))], next := 1 }
theorem aspath_Copy.b0_ev (c0 : Z47) (fuel : Nat) (k0 : St → Option (List TSeg × Unit)) (a0 : (List TSeg)) (s : (Int × Int × (List TSeg))) :
    bodyAt (aspath_Copy.E c0) fuel 3 aspath_Copy.C (endK (aspath_Copy.E c0) [.fresh tySeg] Try.f33) k0 (aspath_Copy.mk0 a0 s) =
    aspath_Copy.b0 c0 a0 (fun t => k0 (aspath_Copy.mk0 a0 t)) s := by kernel_rfl
theorem aspath_Copy.l0_ev (c0 : Z47) (fuel : Nat) (a0 : (List TSeg)) (n : Nat) (s : (Int × Int × (List TSeg))) :
    loopAt (aspath_Copy.E c0) fuel 3 aspath_Copy.C (endK (aspath_Copy.E c0) [.fresh tySeg] Try.f33) n (aspath_Copy.mk0 a0 s) = aspath_Copy.l0 c0 fuel a0 n s :=
  loop_iter (fun k0 s => (aspath_Copy.b0_ev c0 fuel k0 a0 s)) n s
theorem aspath_Copy.b_ev (c0 : Z47) (fuel : Nat) (a0 : (List TSeg)) : evalBody (aspath_Copy.E c0) fuel Try.f33 aspath_Copy.C [(.sl tySeg)] [.fresh tySeg] (a0, ()) =
    aspath_Copy.b c0 a0 (fun t => loopAt (aspath_Copy.E c0) fuel 3 aspath_Copy.C (endK (aspath_Copy.E c0) [.fresh tySeg] Try.f33) fuel (aspath_Copy.mk0 a0 t)) := by kernel_rfl
theorem aspath_Copy.ev (c0 : Z47) (fuel : Nat) (a0 : (List TSeg)) : evalBody (aspath_Copy.E c0) fuel Try.f33 aspath_Copy.C [(.sl tySeg)] [.fresh tySeg] (a0, ()) = aspath_Copy.f c0 fuel a0 :=
  (aspath_Copy.b_ev c0 fuel a0).trans (congrArg (aspath_Copy.b c0 a0) (funext fun t => aspath_Copy.l0_ev c0 fuel a0 fuel t))
noncomputable def aspath_Right.E (c0 : Z49) : Env := envOf Try.prog (pick [(47, ⟨[tySeg], [.pure tyB], c0⟩)]) (pick []) (pick [(2, [(0, none), (5, none), (6, none), (7, none)])])
noncomputable def aspath_Right.C : Code := Try.f30.body.getD .skip
noncomputable def aspath_Right.mk0 (a0 : (List TSeg)) (s : (Int × Int)) : St := { tmps := slots 18 0 [(0, (.one (.pure (.sl tySeg) a0))), (5, (.one (.pure (.sl tySeg) a0))), (6, (.one (.pure tyI s.1))), (7, (.one (.pure tyI s.2)))], st := [], next := 0 }
theorem aspath_Right.b0_ev (c0 : Z49) (fuel : Nat) (k0 : St → Option (Bool × Unit)) (a0 : (List TSeg)) (s : (Int × Int)) :
    bodyAt (aspath_Right.E c0) fuel 2 aspath_Right.C (endK (aspath_Right.E c0) [.pure tyB] Try.f30) k0 (aspath_Right.mk0 a0 s) =
    aspath_Right.b0 c0 a0 (fun t => k0 (aspath_Right.mk0 a0 t)) s := by kernel_rfl
theorem aspath_Right.l0_ev (c0 : Z49) (fuel : Nat) (a0 : (List TSeg)) (n : Nat) (s : (Int × Int)) :
    loopAt (aspath_Right.E c0) fuel 2 aspath_Right.C (endK (aspath_Right.E c0) [.pure tyB] Try.f30) n (aspath_Right.mk0 a0 s) = aspath_Right.l0 c0 fuel a0 n s :=
  loop_iter (fun k0 s => (aspath_Right.b0_ev c0 fuel k0 a0 s)) n s
theorem aspath_Right.b_ev (c0 : Z49) (fuel : Nat) (a0 : (List TSeg)) : evalBody (aspath_Right.E c0) fuel Try.f30 aspath_Right.C [(.sl tySeg)] [.pure tyB] (a0, ()) =
    aspath_Right.b c0 a0 (fun t => loopAt (aspath_Right.E c0) fuel 2 aspath_Right.C (endK (aspath_Right.E c0) [.pure tyB] Try.f30) fuel (aspath_Right.mk0 a0 t)) := by kernel_rfl
theorem aspath_Right.ev (c0 : Z49) (fuel : Nat) (a0 : (List TSeg)) : evalBody (aspath_Right.E c0) fuel Try.f30 aspath_Right.C [(.sl tySeg)] [.pure tyB] (a0, ()) = aspath_Right.f c0 fuel a0 :=
  (aspath_Right.b_ev c0 fuel a0).trans (congrArg (aspath_Right.b c0 a0) (funext fun t => aspath_Right.l0_ev c0 fuel a0 fuel t))
noncomputable def aspath_compare.E (c0 : Z51) (c1 : Z52) (c2 : Z53) : Env := envOf Try.prog (pick [(82, ⟨[tyI, tyI], [.pure tyI], c0⟩), (86, ⟨[(.sl tyW), (.sl tyW)], [.pure tyI], c1⟩), (81, ⟨[(.sl tyI)], [.pure tyI], c2⟩)]) (pick []) (pick [])
noncomputable def aspath_compare.C : Code := Try.f98.body.getD .skip
theorem aspath_compare.b_ev (c0 : Z51) (c1 : Z52) (c2 : Z53) (fuel : Nat) (a0 : TSeg) (a1 : TSeg) : evalBy (aspath_compare.E c0 c1 c2) fuel Try.f98 aspath_compare.C [.pure tySeg, .pure tySeg] [.pure tyI] (a0, a1, ()) =
    aspath_compare.b c0 c1 c2 a0 a1 := by kernel_rfl
theorem aspath_compare.ev (c0 : Z51) (c1 : Z52) (c2 : Z53) (fuel : Nat) (a0 : TSeg) (a1 : TSeg) : evalBy (aspath_compare.E c0 c1 c2) fuel Try.f98 aspath_compare.C [.pure tySeg, .pure tySeg] [.pure tyI] (a0, a1, ()) = aspath_compare.f c0 c1 c2 fuel a0 a1 :=
  (aspath_compare.b_ev c0 c1 c2 fuel a0 a1)
noncomputable def aspath_right.E : Env := envOf Try.prog (pick []) (pick []) (pick [])
noncomputable def aspath_right.C : Code := Try.f47.body.getD .skip
theorem aspath_right.b_ev (fuel : Nat) (a0 : TSeg) : evalBody (aspath_right.E) fuel Try.f47 aspath_right.C [tySeg] [.pure tyB] (a0, ()) =
    aspath_right.b a0 := by kernel_rfl
theorem aspath_right.ev (fuel : Nat) (a0 : TSeg) : evalBody (aspath_right.E) fuel Try.f47 aspath_right.C [tySeg] [.pure tyB] (a0, ()) = aspath_right.f fuel a0 :=
  (aspath_right.b_ev fuel a0)
noncomputable def attr_Canon.E (c0 : Z28) (c2 : Z54) (c3 : Z55) : Env := envOf Try.prog (pick [(33, ⟨[(.sl tySeg)], [.fresh tySeg], c0⟩)]) (pick [(35, extBy ⟨[.fn 51 [(.sl tyW)]], [.fresh tyW], c2⟩), (34, extBy ⟨[.give tyW], [.fresh tyW], c3⟩), (36, capExt 51)]) (pick [])
noncomputable def attr_Canon.C : Code := Try.f17.body.getD .skip
theorem attr_Canon.b_ev (c0 : Z28) (c2 : Z54) (c3 : Z55) (fuel : Nat) (a0 : TAttrs) : evalBody (attr_Canon.E c0 c2 c3) fuel Try.f17 attr_Canon.C [tyAttrs] [.pure tyAttrs] (a0, ()) =
    attr_Canon.b c0 c2 c3 a0 := by kernel_rfl
theorem attr_Canon.ev (c0 : Z28) (c2 : Z54) (c3 : Z55) (fuel : Nat) (a0 : TAttrs) : evalBody (attr_Canon.E c0 c2 c3) fuel Try.f17 attr_Canon.C [tyAttrs] [.pure tyAttrs] (a0, ()) = attr_Canon.f c0 c2 c3 fuel a0 :=
  (attr_Canon.b_ev c0 c2 c3 fuel a0)
noncomputable def attr_Cmp.E (c0 : Z31) (c1 : Z51) (c2 : Z32) (c3 : Z51) (c4 : Bool × Unit → Option (Int × Unit)) (c5 : Z52) (c6 : Z53) : Env := envOf Try.prog (pick [(17, ⟨[tyAttrs], [.pure tyAttrs], c0⟩), (82, ⟨[tyI, tyI], [.pure tyI], c1⟩), (83, ⟨[(.sl tySeg), (.sl tySeg)], [.pure tyI], c2⟩), (84, ⟨[tyW, tyW], [.pure tyI], c3⟩), (85, ⟨[tyB], [.pure tyI], c4⟩), (86, ⟨[(.sl tyW), (.sl tyW)], [.pure tyI], c5⟩), (81, ⟨[(.sl tyI)], [.pure tyI], c6⟩)]) (pick []) (pick [])
noncomputable def attr_Cmp.C : Code := Try.f61.body.getD .skip
theorem attr_Cmp.b_ev (c0 : Z31) (c1 : Z51) (c2 : Z32) (c3 : Z51) (c4 : Bool × Unit → Option (Int × Unit)) (c5 : Z52) (c6 : Z53) (fuel : Nat) (a0 : TAttrs) (a1 : TAttrs) : evalBody (attr_Cmp.E c0 c1 c2 c3 c4 c5 c6) fuel Try.f61 attr_Cmp.C [tyAttrs, tyAttrs] [.pure tyI] (a0, a1, ()) =
    attr_Cmp.b c0 c1 c2 c3 c4 c5 c6 a0 a1 := by kernel_rfl
theorem attr_Cmp.ev (c0 : Z31) (c1 : Z51) (c2 : Z32) (c3 : Z51) (c4 : Bool × Unit → Option (Int × Unit)) (c5 : Z52) (c6 : Z53) (fuel : Nat) (a0 : TAttrs) (a1 : TAttrs) : evalBody (attr_Cmp.E c0 c1 c2 c3 c4 c5 c6) fuel Try.f61 attr_Cmp.C [tyAttrs, tyAttrs] [.pure tyI] (a0, a1, ()) = attr_Cmp.f c0 c1 c2 c3 c4 c5 c6 fuel a0 a1 :=
  (attr_Cmp.b_ev c0 c1 c2 c3 c4 c5 c6 fuel a0 a1)
noncomputable def attr_Good.E : Env := envOf Try.prog (pick []) (pick []) (pick [])
noncomputable def attr_Good.C : Code := Try.f31.body.getD .skip
theorem attr_Good.b_ev (fuel : Nat) (a0 : Int) : evalBody (attr_Good.E) fuel Try.f31 attr_Good.C [tyW] [.pure tyB] (a0, ()) =
    attr_Good.b a0 := by kernel_rfl
theorem attr_Good.ev (fuel : Nat) (a0 : Int) : evalBody (attr_Good.E) fuel Try.f31 attr_Good.C [tyW] [.pure tyB] (a0, ()) = attr_Good.f fuel a0 :=
  (attr_Good.b_ev fuel a0)
noncomputable def attr_Right.E (c0 : Z56) (c1 : Int × Unit → Option (Bool × Unit)) (c2 : Z57) : Env := envOf Try.prog (pick [(30, ⟨[(.sl tySeg)], [.pure tyB], c0⟩), (31, ⟨[tyW], [.pure tyB], c1⟩), (32, ⟨[(.sl tyW)], [.pure tyB], c2⟩)]) (pick []) (pick [])
noncomputable def attr_Right.C : Code := Try.f16.body.getD .skip
theorem attr_Right.b_ev (c0 : Z56) (c1 : Int × Unit → Option (Bool × Unit)) (c2 : Z57) (fuel : Nat) (a0 : TAttrs) : evalBody (attr_Right.E c0 c1 c2) fuel Try.f16 attr_Right.C [tyAttrs] [.pure tyB] (a0, ()) =
    attr_Right.b c0 c1 c2 a0 := by kernel_rfl
theorem attr_Right.ev (c0 : Z56) (c1 : Int × Unit → Option (Bool × Unit)) (c2 : Z57) (fuel : Nat) (a0 : TAttrs) : evalBody (attr_Right.E c0 c1 c2) fuel Try.f16 attr_Right.C [tyAttrs] [.pure tyB] (a0, ()) = attr_Right.f c0 c1 c2 fuel a0 :=
  (attr_Right.b_ev c0 c1 c2 fuel a0)
noncomputable def attr_Same.E (c0 : Z36) : Env := envOf Try.prog (pick [(61, ⟨[tyAttrs, tyAttrs], [.pure tyI], c0⟩)]) (pick []) (pick [])
noncomputable def attr_Same.C : Code := Try.f53.body.getD .skip
theorem attr_Same.b_ev (c0 : Z36) (fuel : Nat) (a0 : TAttrs) (a1 : TAttrs) : evalBody (attr_Same.E c0) fuel Try.f53 attr_Same.C [tyAttrs, tyAttrs] [.pure tyB] (a0, a1, ()) =
    attr_Same.b c0 a0 a1 := by kernel_rfl
theorem attr_Same.ev (c0 : Z36) (fuel : Nat) (a0 : TAttrs) (a1 : TAttrs) : evalBody (attr_Same.E c0) fuel Try.f53 attr_Same.C [tyAttrs, tyAttrs] [.pure tyB] (a0, a1, ()) = attr_Same.f c0 fuel a0 a1 :=
  (attr_Same.b_ev c0 fuel a0 a1)
noncomputable def attr_rising.E : Env := envOf Try.prog (pick []) (pick []) (pick [(2, [(0, none), (3, none)])])
noncomputable def attr_rising.C : Code := Try.f32.body.getD .skip
noncomputable def attr_rising.mk0 (a0 : (List Int)) (s : Int) : St := { tmps := slots 20 0 [(0, (.one (.pure (.sl tyW) a0))), (3, (.one (.pure tyI s)))], st := [], next := 0 }
theorem attr_rising.b0_ev (fuel : Nat) (k0 : St → Option (Bool × Unit)) (a0 : (List Int)) (s : Int) :
    bodyAt (attr_rising.E) fuel 2 attr_rising.C (endK (attr_rising.E) [.pure tyB] Try.f32) k0 (attr_rising.mk0 a0 s) =
    attr_rising.b0 a0 (fun t => k0 (attr_rising.mk0 a0 t)) s := by kernel_rfl
theorem attr_rising.l0_ev (fuel : Nat) (a0 : (List Int)) (n : Nat) (s : Int) :
    loopAt (attr_rising.E) fuel 2 attr_rising.C (endK (attr_rising.E) [.pure tyB] Try.f32) n (attr_rising.mk0 a0 s) = attr_rising.l0 fuel a0 n s :=
  loop_iter (fun k0 s => (attr_rising.b0_ev fuel k0 a0 s)) n s
theorem attr_rising.b_ev (fuel : Nat) (a0 : (List Int)) : evalBody (attr_rising.E) fuel Try.f32 attr_rising.C [(.sl tyW)] [.pure tyB] (a0, ()) =
    attr_rising.b a0 (fun t => loopAt (attr_rising.E) fuel 2 attr_rising.C (endK (attr_rising.E) [.pure tyB] Try.f32) fuel (attr_rising.mk0 a0 t)) := by kernel_rfl
theorem attr_rising.ev (fuel : Nat) (a0 : (List Int)) : evalBody (attr_rising.E) fuel Try.f32 attr_rising.C [(.sl tyW)] [.pure tyB] (a0, ()) = attr_rising.f fuel a0 :=
  (attr_rising.b_ev fuel a0).trans (congrArg (attr_rising.b a0) (funext fun t => attr_rising.l0_ev fuel a0 fuel t))
noncomputable def attr_truth.E : Env := envOf Try.prog (pick []) (pick []) (pick [])
noncomputable def attr_truth.C : Code := Try.f85.body.getD .skip
theorem attr_truth.b_ev (fuel : Nat) (a0 : Bool) : evalBody (attr_truth.E) fuel Try.f85 attr_truth.C [tyB] [.pure tyI] (a0, ()) =
    attr_truth.b a0 := by kernel_rfl
theorem attr_truth.ev (fuel : Nat) (a0 : Bool) : evalBody (attr_truth.E) fuel Try.f85 attr_truth.C [tyB] [.pure tyI] (a0, ()) = attr_truth.f fuel a0 :=
  (attr_truth.b_ev fuel a0)
noncomputable def cmp_Compare_int.E (c0 : Int × Unit → Option (Bool × Unit)) : Env := envOf Try.prog (pick [(96, ⟨[tyI], [.pure tyB], c0⟩)]) (pick []) (pick [])
noncomputable def cmp_Compare_int.C : Code := Try.f82.body.getD .skip
theorem cmp_Compare_int.b_ev (c0 : Int × Unit → Option (Bool × Unit)) (fuel : Nat) (a0 : Int) (a1 : Int) : evalBody (cmp_Compare_int.E c0) fuel Try.f82 cmp_Compare_int.C [tyI, tyI] [.pure tyI] (a0, a1, ()) =
    cmp_Compare_int.b c0 a0 a1 := by kernel_rfl
theorem cmp_Compare_int.ev (c0 : Int × Unit → Option (Bool × Unit)) (fuel : Nat) (a0 : Int) (a1 : Int) : evalBody (cmp_Compare_int.E c0) fuel Try.f82 cmp_Compare_int.C [tyI, tyI] [.pure tyI] (a0, a1, ()) = cmp_Compare_int.f c0 fuel a0 a1 :=
  (cmp_Compare_int.b_ev c0 fuel a0 a1)
noncomputable def cmp_Compare_uint32.E (c0 : Int × Unit → Option (Bool × Unit)) : Env := envOf Try.prog (pick [(95, ⟨[tyW], [.pure tyB], c0⟩)]) (pick []) (pick [])
noncomputable def cmp_Compare_uint32.C : Code := Try.f84.body.getD .skip
theorem cmp_Compare_uint32.b_ev (c0 : Int × Unit → Option (Bool × Unit)) (fuel : Nat) (a0 : Int) (a1 : Int) : evalBody (cmp_Compare_uint32.E c0) fuel Try.f84 cmp_Compare_uint32.C [tyW, tyW] [.pure tyI] (a0, a1, ()) =
    cmp_Compare_uint32.b c0 a0 a1 := by kernel_rfl
theorem cmp_Compare_uint32.ev (c0 : Int × Unit → Option (Bool × Unit)) (fuel : Nat) (a0 : Int) (a1 : Int) : evalBody (cmp_Compare_uint32.E c0) fuel Try.f84 cmp_Compare_uint32.C [tyW, tyW] [.pure tyI] (a0, a1, ()) = cmp_Compare_uint32.f c0 fuel a0 a1 :=
  (cmp_Compare_uint32.b_ev c0 fuel a0 a1)
noncomputable def cmp_Less_uint32.E (c0 : Int × Unit → Option (Bool × Unit)) : Env := envOf Try.prog (pick [(95, ⟨[tyW], [.pure tyB], c0⟩)]) (pick []) (pick [])
noncomputable def cmp_Less_uint32.C : Code := Try.f78.body.getD .skip
theorem cmp_Less_uint32.b_ev (c0 : Int × Unit → Option (Bool × Unit)) (fuel : Nat) (a0 : Int) (a1 : Int) : evalBody (cmp_Less_uint32.E c0) fuel Try.f78 cmp_Less_uint32.C [tyW, tyW] [.pure tyB] (a0, a1, ()) =
    cmp_Less_uint32.b c0 a0 a1 := by kernel_rfl
theorem cmp_Less_uint32.ev (c0 : Int × Unit → Option (Bool × Unit)) (fuel : Nat) (a0 : Int) (a1 : Int) : evalBody (cmp_Less_uint32.E c0) fuel Try.f78 cmp_Less_uint32.C [tyW, tyW] [.pure tyB] (a0, a1, ()) = cmp_Less_uint32.f c0 fuel a0 a1 :=
  (cmp_Less_uint32.b_ev c0 fuel a0 a1)
noncomputable def cmp_Or_int.E : Env := envOf Try.prog (pick []) (pick []) (pick [(3, [(3, none), (6, none), (7, none), (8, none)])])
noncomputable def cmp_Or_int.C : Code := Try.f81.body.getD .skip
noncomputable def cmp_Or_int.mk0 (a0 : (List Int)) (s : (Int × Int × Int)) : St := { tmps := slots 18 0 [(3, (.one (.pure tyI s.1))), (6, (.one (.pure (.sl tyI) a0))), (7, (.one (.pure tyI s.2.1))), (8, (.one (.pure tyI s.2.2)))], st := [], next := 0 }
theorem cmp_Or_int.b0_ev (fuel : Nat) (k0 : St → Option (Int × Unit)) (a0 : (List Int)) (s : (Int × Int × Int)) :
    bodyAt (cmp_Or_int.E) fuel 3 cmp_Or_int.C (endK (cmp_Or_int.E) [.pure tyI] Try.f81) k0 (cmp_Or_int.mk0 a0 s) =
    cmp_Or_int.b0 a0 (fun t => k0 (cmp_Or_int.mk0 a0 t)) s := by kernel_rfl
theorem cmp_Or_int.l0_ev (fuel : Nat) (a0 : (List Int)) (n : Nat) (s : (Int × Int × Int)) :
    loopAt (cmp_Or_int.E) fuel 3 cmp_Or_int.C (endK (cmp_Or_int.E) [.pure tyI] Try.f81) n (cmp_Or_int.mk0 a0 s) = cmp_Or_int.l0 fuel a0 n s :=
  loop_iter (fun k0 s => (cmp_Or_int.b0_ev fuel k0 a0 s)) n s
theorem cmp_Or_int.b_ev (fuel : Nat) (a0 : (List Int)) : evalBody (cmp_Or_int.E) fuel Try.f81 cmp_Or_int.C [(.sl tyI)] [.pure tyI] (a0, ()) =
    cmp_Or_int.b a0 (fun t => loopAt (cmp_Or_int.E) fuel 3 cmp_Or_int.C (endK (cmp_Or_int.E) [.pure tyI] Try.f81) fuel (cmp_Or_int.mk0 a0 t)) := by kernel_rfl
theorem cmp_Or_int.ev (fuel : Nat) (a0 : (List Int)) : evalBody (cmp_Or_int.E) fuel Try.f81 cmp_Or_int.C [(.sl tyI)] [.pure tyI] (a0, ()) = cmp_Or_int.f fuel a0 :=
  (cmp_Or_int.b_ev fuel a0).trans (congrArg (cmp_Or_int.b a0) (funext fun t => cmp_Or_int.l0_ev fuel a0 fuel t))
noncomputable def cmp_isNaN_int.E : Env := envOf Try.prog (pick []) (pick []) (pick [])
noncomputable def cmp_isNaN_int.C : Code := Try.f96.body.getD .skip
theorem cmp_isNaN_int.b_ev (fuel : Nat) (a0 : Int) : evalBody (cmp_isNaN_int.E) fuel Try.f96 cmp_isNaN_int.C [tyI] [.pure tyB] (a0, ()) =
    cmp_isNaN_int.b a0 := by kernel_rfl
theorem cmp_isNaN_int.ev (fuel : Nat) (a0 : Int) : evalBody (cmp_isNaN_int.E) fuel Try.f96 cmp_isNaN_int.C [tyI] [.pure tyB] (a0, ()) = cmp_isNaN_int.f fuel a0 :=
  (cmp_isNaN_int.b_ev fuel a0)
noncomputable def cmp_isNaN_uint32.E : Env := envOf Try.prog (pick []) (pick []) (pick [])
noncomputable def cmp_isNaN_uint32.C : Code := Try.f95.body.getD .skip
theorem cmp_isNaN_uint32.b_ev (fuel : Nat) (a0 : Int) : evalBody (cmp_isNaN_uint32.E) fuel Try.f95 cmp_isNaN_uint32.C [tyW] [.pure tyB] (a0, ()) =
    cmp_isNaN_uint32.b a0 := by kernel_rfl
theorem cmp_isNaN_uint32.ev (fuel : Nat) (a0 : Int) : evalBody (cmp_isNaN_uint32.E) fuel Try.f95 cmp_isNaN_uint32.C [tyW] [.pure tyB] (a0, ()) = cmp_isNaN_uint32.f fuel a0 :=
  (cmp_isNaN_uint32.b_ev fuel a0)
noncomputable def math_bits_Len64.E : Env := envOf Try.prog (pick []) (pick []) (pick [])
noncomputable def math_bits_Len64.C : Code := Try.f71.body.getD .skip
theorem math_bits_Len64.b_ev (fuel : Nat) (a0 : Int) : evalBody (math_bits_Len64.E) fuel Try.f71 math_bits_Len64.C [tyU64] [.pure tyI] (a0, ()) =
    math_bits_Len64.b a0 := by kernel_rfl
theorem math_bits_Len64.ev (fuel : Nat) (a0 : Int) : evalBody (math_bits_Len64.E) fuel Try.f71 math_bits_Len64.C [tyU64] [.pure tyI] (a0, ()) = math_bits_Len64.f fuel a0 :=
  (math_bits_Len64.b_ev fuel a0)
noncomputable def slices_Clone_uint32_uint32.E : Env := envOf Try.prog (pick []) (pick []) (pick [])
noncomputable def slices_Clone_uint32_uint32.C : Code := Try.f48.body.getD .skip
theorem slices_Clone_uint32_uint32.b_ev (fuel : Nat) (a0 : (List Int)) : evalBody (slices_Clone_uint32_uint32.E) fuel Try.f48 slices_Clone_uint32_uint32.C [(.sl tyW)] [.fresh tyW] (a0, ()) =
    slices_Clone_uint32_uint32.b a0 := by kernel_rfl
theorem slices_Clone_uint32_uint32.ev (fuel : Nat) (a0 : (List Int)) : evalBody (slices_Clone_uint32_uint32.E) fuel Try.f48 slices_Clone_uint32_uint32.C [(.sl tyW)] [.fresh tyW] (a0, ()) = slices_Clone_uint32_uint32.f fuel a0 :=
  (slices_Clone_uint32_uint32.b_ev fuel a0)
noncomputable def slices_Compact_uint32_uint32.E : Env := envOf Try.prog (pick []) (pick []) (pick [(4, [(0, none), (3, none)]), (9, [(0, none), (3, none), (4, none), (5, none)])])
noncomputable def slices_Compact_uint32_uint32.C : Code := Try.f34.body.getD .skip
noncomputable def slices_Compact_uint32_uint32.mk0 (a0 : (List Int)) (s : Int) : St := { tmps := slots 61 0 [(0, (.one (.own 1))), (3, (.one (.pure tyI s)))], st := [(0, (.ghost [(.one (.own 1))])), (1, (.row tyW a0))], next := 2 }
noncomputable def slices_Compact_uint32_uint32.mk1 (a0 : (List Int)) (s : Z61) : St := { tmps := slots 61 0 [(0, (.one (.own 1))), (3, (.one (.pure tyI s.1))), (4, (.one (.view 1 1 s.2.1 s.2.2.1))), (5, (.one (.pure tyI s.2.2.2.1)))], st := [(0, (.ghost [(.one (.own 1))])), (1, (.row tyW s.2.2.2.2))], next := 2 }
noncomputable def slices_Compact_uint32_uint32.C0 (fuel : Nat) : Code := codeAt (slices_Compact_uint32_uint32.E) fuel 4 slices_Compact_uint32_uint32.C
noncomputable def slices_Compact_uint32_uint32.K0 (fuel : Nat) (k0 : Z103) : Ex → St → Option ((List Int × Unit) × ((Option (List Int)) × Unit)) := contAt (slices_Compact_uint32_uint32.E) fuel 4 slices_Compact_uint32_uint32.C (endBy (slices_Compact_uint32_uint32.E) [.give tyW] [.fresh tyW] Try.f34) k0
theorem slices_Compact_uint32_uint32.b1_ev (fuel : Nat) (k0 : Z103) (k1 : Z103) (a0 : (List Int)) (s : Z61) :
    bodyAt (slices_Compact_uint32_uint32.E) fuel 9 (slices_Compact_uint32_uint32.C0 fuel) (slices_Compact_uint32_uint32.K0 fuel k0) k1 (slices_Compact_uint32_uint32.mk1 a0 s) =
    slices_Compact_uint32_uint32.b1 a0 (fun t => k0 (slices_Compact_uint32_uint32.mk0 a0 t)) (fun t => k1 (slices_Compact_uint32_uint32.mk1 a0 t)) s := by kernel_rfl
theorem slices_Compact_uint32_uint32.l1_ev (fuel : Nat) (k0 : Z103) (a0 : (List Int)) (n : Nat) (s : Z61) :
    loopAt (slices_Compact_uint32_uint32.E) fuel 9 (slices_Compact_uint32_uint32.C0 fuel) (slices_Compact_uint32_uint32.K0 fuel k0) n (slices_Compact_uint32_uint32.mk1 a0 s) = slices_Compact_uint32_uint32.l1 fuel a0 (fun t => k0 (slices_Compact_uint32_uint32.mk0 a0 t)) n s :=
  loop_iter (fun k1 s => (slices_Compact_uint32_uint32.b1_ev fuel k0 k1 a0 s)) n s
theorem slices_Compact_uint32_uint32.b0_ev (fuel : Nat) (k0 : Z103) (a0 : (List Int)) (s : Int) :
    bodyAt (slices_Compact_uint32_uint32.E) fuel 4 slices_Compact_uint32_uint32.C (endBy (slices_Compact_uint32_uint32.E) [.give tyW] [.fresh tyW] Try.f34) k0 (slices_Compact_uint32_uint32.mk0 a0 s) =
    slices_Compact_uint32_uint32.b0 a0 (fun t => loopAt (slices_Compact_uint32_uint32.E) fuel 9 (slices_Compact_uint32_uint32.C0 fuel) (slices_Compact_uint32_uint32.K0 fuel k0) fuel (slices_Compact_uint32_uint32.mk1 a0 t)) (fun t => k0 (slices_Compact_uint32_uint32.mk0 a0 t)) s := by kernel_rfl
theorem slices_Compact_uint32_uint32.l0_ev (fuel : Nat) (a0 : (List Int)) (n : Nat) (s : Int) :
    loopAt (slices_Compact_uint32_uint32.E) fuel 4 slices_Compact_uint32_uint32.C (endBy (slices_Compact_uint32_uint32.E) [.give tyW] [.fresh tyW] Try.f34) n (slices_Compact_uint32_uint32.mk0 a0 s) = slices_Compact_uint32_uint32.l0 fuel a0 n s :=
  loop_iter (fun k0 s => (slices_Compact_uint32_uint32.b0_ev fuel k0 a0 s).trans (congrFun (congrFun (congrArg (slices_Compact_uint32_uint32.b0 a0) (funext fun t => slices_Compact_uint32_uint32.l1_ev fuel k0 a0 fuel t)) (fun t => k0 (slices_Compact_uint32_uint32.mk0 a0 t))) s)) n s
theorem slices_Compact_uint32_uint32.b_ev (fuel : Nat) (a0 : (List Int)) : evalBy (slices_Compact_uint32_uint32.E) fuel Try.f34 slices_Compact_uint32_uint32.C [.give tyW] [.fresh tyW] (some a0, ()) =
    slices_Compact_uint32_uint32.b a0 (fun t => loopAt (slices_Compact_uint32_uint32.E) fuel 4 slices_Compact_uint32_uint32.C (endBy (slices_Compact_uint32_uint32.E) [.give tyW] [.fresh tyW] Try.f34) fuel (slices_Compact_uint32_uint32.mk0 a0 t)) := by kernel_rfl
theorem slices_Compact_uint32_uint32.ev (fuel : Nat) (a0 : (List Int)) : evalBy (slices_Compact_uint32_uint32.E) fuel Try.f34 slices_Compact_uint32_uint32.C [.give tyW] [.fresh tyW] (some a0, ()) = slices_Compact_uint32_uint32.f fuel a0 :=
  (slices_Compact_uint32_uint32.b_ev fuel a0).trans (congrArg (slices_Compact_uint32_uint32.b a0) (funext fun t => slices_Compact_uint32_uint32.l0_ev fuel a0 fuel t))
noncomputable def slices_CompareFunc_api_Seg_api_Seg_api_Seg_api_Seg.E (c0 : Z62) : Env := envOf Try.prog (pick []) (pick [(98, extBy ⟨[.pure tySeg, .pure tySeg], [.pure tyI], c0⟩)]) (pick [(2, [(0, none), (1, none), (2, none), (11, none), (12, none), (13, none)])])
noncomputable def slices_CompareFunc_api_Seg_api_Seg_api_Seg_api_Seg.C : Code := Try.f97.body.getD .skip
noncomputable def slices_CompareFunc_api_Seg_api_Seg_api_Seg_api_Seg.mk0 (a0 : (List TSeg)) (a1 : (List TSeg)) (a2 : (Unit)) (s : (Int × Int)) : St := { tmps := slots 39 0 [(0, (.one (.pure (.sl tySeg) a0))), (1, (.one (.pure (.sl tySeg) a1))), (2, (.one (.fn 98 []))), (11, (.one (.pure (.sl tySeg) a0))), (12, (.one (.pure tyI s.1))), (13, (.one (.pure tyI s.2)))], st := [(0, (.ghost [(.one (.pure (.sl tySeg) a0)), (.one (.pure (.sl tySeg) a1)), (.one (.fn 98 []))]))], next := 1 }
theorem slices_CompareFunc_api_Seg_api_Seg_api_Seg_api_Seg.b0_ev (c0 : Z62) (fuel : Nat) (k0 : Z104) (a0 : (List TSeg)) (a1 : (List TSeg)) (a2 : (Unit)) (s : (Int × Int)) :
    bodyAt (slices_CompareFunc_api_Seg_api_Seg_api_Seg_api_Seg.E c0) fuel 2 slices_CompareFunc_api_Seg_api_Seg_api_Seg_api_Seg.C (endBy (slices_CompareFunc_api_Seg_api_Seg_api_Seg_api_Seg.E c0) [.pure (.sl tySeg), .pure (.sl tySeg), .fn 98 []] [.pure tyI] Try.f97) k0 (slices_CompareFunc_api_Seg_api_Seg_api_Seg_api_Seg.mk0 a0 a1 a2 s) =
    slices_CompareFunc_api_Seg_api_Seg_api_Seg_api_Seg.b0 c0 a0 a1 a2 (fun t => k0 (slices_CompareFunc_api_Seg_api_Seg_api_Seg_api_Seg.mk0 a0 a1 a2 t)) s := by kernel_rfl
theorem slices_CompareFunc_api_Seg_api_Seg_api_Seg_api_Seg.l0_ev (c0 : Z62) (fuel : Nat) (a0 : (List TSeg)) (a1 : (List TSeg)) (a2 : (Unit)) (n : Nat) (s : (Int × Int)) :
    loopAt (slices_CompareFunc_api_Seg_api_Seg_api_Seg_api_Seg.E c0) fuel 2 slices_CompareFunc_api_Seg_api_Seg_api_Seg_api_Seg.C (endBy (slices_CompareFunc_api_Seg_api_Seg_api_Seg_api_Seg.E c0) [.pure (.sl tySeg), .pure (.sl tySeg), .fn 98 []] [.pure tyI] Try.f97) n (slices_CompareFunc_api_Seg_api_Seg_api_Seg_api_Seg.mk0 a0 a1 a2 s) = slices_CompareFunc_api_Seg_api_Seg_api_Seg_api_Seg.l0 c0 fuel a0 a1 a2 n s :=
  loop_iter (fun k0 s => (slices_CompareFunc_api_Seg_api_Seg_api_Seg_api_Seg.b0_ev c0 fuel k0 a0 a1 a2 s)) n s
theorem slices_CompareFunc_api_Seg_api_Seg_api_Seg_api_Seg.b_ev (c0 : Z62) (fuel : Nat) (a0 : (List TSeg)) (a1 : (List TSeg)) (a2 : (Unit)) : evalBy (slices_CompareFunc_api_Seg_api_Seg_api_Seg_api_Seg.E c0) fuel Try.f97 slices_CompareFunc_api_Seg_api_Seg_api_Seg_api_Seg.C [.pure (.sl tySeg), .pure (.sl tySeg), .fn 98 []] [.pure tyI] (a0, a1, a2, ()) =
    slices_CompareFunc_api_Seg_api_Seg_api_Seg_api_Seg.b c0 a0 a1 a2 (fun t => loopAt (slices_CompareFunc_api_Seg_api_Seg_api_Seg_api_Seg.E c0) fuel 2 slices_CompareFunc_api_Seg_api_Seg_api_Seg_api_Seg.C (endBy (slices_CompareFunc_api_Seg_api_Seg_api_Seg_api_Seg.E c0) [.pure (.sl tySeg), .pure (.sl tySeg), .fn 98 []] [.pure tyI] Try.f97) fuel (slices_CompareFunc_api_Seg_api_Seg_api_Seg_api_Seg.mk0 a0 a1 a2 t)) := by kernel_rfl
theorem slices_CompareFunc_api_Seg_api_Seg_api_Seg_api_Seg.ev (c0 : Z62) (fuel : Nat) (a0 : (List TSeg)) (a1 : (List TSeg)) (a2 : (Unit)) : evalBy (slices_CompareFunc_api_Seg_api_Seg_api_Seg_api_Seg.E c0) fuel Try.f97 slices_CompareFunc_api_Seg_api_Seg_api_Seg_api_Seg.C [.pure (.sl tySeg), .pure (.sl tySeg), .fn 98 []] [.pure tyI] (a0, a1, a2, ()) = slices_CompareFunc_api_Seg_api_Seg_api_Seg_api_Seg.f c0 fuel a0 a1 a2 :=
  (slices_CompareFunc_api_Seg_api_Seg_api_Seg_api_Seg.b_ev c0 fuel a0 a1 a2).trans (congrArg (slices_CompareFunc_api_Seg_api_Seg_api_Seg_api_Seg.b c0 a0 a1 a2) (funext fun t => slices_CompareFunc_api_Seg_api_Seg_api_Seg_api_Seg.l0_ev c0 fuel a0 a1 a2 fuel t))
noncomputable def slices_Compare_uint32_uint32.E (c0 : Z51) : Env := envOf Try.prog (pick [(84, ⟨[tyW, tyW], [.pure tyI], c0⟩)]) (pick []) (pick [(2, [(0, none), (1, none), (9, none), (10, none), (11, none)])])
noncomputable def slices_Compare_uint32_uint32.C : Code := Try.f86.body.getD .skip
noncomputable def slices_Compare_uint32_uint32.mk0 (a0 : (List Int)) (a1 : (List Int)) (s : (Int × Int)) : St := { tmps := slots 36 0 [(0, (.one (.pure (.sl tyW) a0))), (1, (.one (.pure (.sl tyW) a1))), (9, (.one (.pure (.sl tyW) a0))), (10, (.one (.pure tyI s.1))), (11, (.one (.pure tyI s.2)))], st := [], next := 0 }
theorem slices_Compare_uint32_uint32.b0_ev (c0 : Z51) (fuel : Nat) (k0 : St → Option (Int × Unit)) (a0 : (List Int)) (a1 : (List Int)) (s : (Int × Int)) :
    bodyAt (slices_Compare_uint32_uint32.E c0) fuel 2 slices_Compare_uint32_uint32.C (endK (slices_Compare_uint32_uint32.E c0) [.pure tyI] Try.f86) k0 (slices_Compare_uint32_uint32.mk0 a0 a1 s) =
    slices_Compare_uint32_uint32.b0 c0 a0 a1 (fun t => k0 (slices_Compare_uint32_uint32.mk0 a0 a1 t)) s := by kernel_rfl
theorem slices_Compare_uint32_uint32.l0_ev (c0 : Z51) (fuel : Nat) (a0 : (List Int)) (a1 : (List Int)) (n : Nat) (s : (Int × Int)) :
    loopAt (slices_Compare_uint32_uint32.E c0) fuel 2 slices_Compare_uint32_uint32.C (endK (slices_Compare_uint32_uint32.E c0) [.pure tyI] Try.f86) n (slices_Compare_uint32_uint32.mk0 a0 a1 s) = slices_Compare_uint32_uint32.l0 c0 fuel a0 a1 n s :=
  loop_iter (fun k0 s => (slices_Compare_uint32_uint32.b0_ev c0 fuel k0 a0 a1 s)) n s
theorem slices_Compare_uint32_uint32.b_ev (c0 : Z51) (fuel : Nat) (a0 : (List Int)) (a1 : (List Int)) : evalBody (slices_Compare_uint32_uint32.E c0) fuel Try.f86 slices_Compare_uint32_uint32.C [(.sl tyW), (.sl tyW)] [.pure tyI] (a0, a1, ()) =
    slices_Compare_uint32_uint32.b c0 a0 a1 (fun t => loopAt (slices_Compare_uint32_uint32.E c0) fuel 2 slices_Compare_uint32_uint32.C (endK (slices_Compare_uint32_uint32.E c0) [.pure tyI] Try.f86) fuel (slices_Compare_uint32_uint32.mk0 a0 a1 t)) := by kernel_rfl
theorem slices_Compare_uint32_uint32.ev (c0 : Z51) (fuel : Nat) (a0 : (List Int)) (a1 : (List Int)) : evalBody (slices_Compare_uint32_uint32.E c0) fuel Try.f86 slices_Compare_uint32_uint32.C [(.sl tyW), (.sl tyW)] [.pure tyI] (a0, a1, ()) = slices_Compare_uint32_uint32.f c0 fuel a0 a1 :=
  (slices_Compare_uint32_uint32.b_ev c0 fuel a0 a1).trans (congrArg (slices_Compare_uint32_uint32.b c0 a0 a1) (funext fun t => slices_Compare_uint32_uint32.l0_ev c0 fuel a0 a1 fuel t))
noncomputable def slices_Sort_uint32_uint32.E (c0 : Int × Unit → Option (Int × Unit)) (c1 : Z64) : Env := envOf Try.prog (pick [(55, ⟨[tyU64], [.pure tyI], c0⟩)]) (pick [(60, extBy ⟨[.row tyW, .pure tyI, .pure tyI, .pure tyI], [], c1⟩)]) (pick [])
noncomputable def slices_Sort_uint32_uint32.C : Code := Try.f50.body.getD .skip
theorem slices_Sort_uint32_uint32.b_ev (c0 : Int × Unit → Option (Int × Unit)) (c1 : Z64) (fuel : Nat) (a0 : (List Int)) : evalBy (slices_Sort_uint32_uint32.E c0 c1) fuel Try.f50 slices_Sort_uint32_uint32.C [.row tyW] [] (a0, ()) =
    slices_Sort_uint32_uint32.b c0 c1 a0 := by kernel_rfl
theorem slices_Sort_uint32_uint32.ev (c0 : Int × Unit → Option (Int × Unit)) (c1 : Z64) (fuel : Nat) (a0 : (List Int)) : evalBy (slices_Sort_uint32_uint32.E c0 c1) fuel Try.f50 slices_Sort_uint32_uint32.C [.row tyW] [] (a0, ()) = slices_Sort_uint32_uint32.f c0 c1 fuel a0 :=
  (slices_Sort_uint32_uint32.b_ev c0 c1 fuel a0)
noncomputable def slices_Sorted_uint32.E (c1 : Z65) : Env := envOf Try.prog (pick []) (pick [(50, extBy ⟨[.row tyW], [], c1⟩), (49, colExt 51 tyW)]) (pick [])
noncomputable def slices_Sorted_uint32.C : Code := Try.f35.body.getD .skip
theorem slices_Sorted_uint32.b_ev (c1 : Z65) (fuel : Nat) (a0 : ((List Int) × Unit)) : evalBy (slices_Sorted_uint32.E c1) fuel Try.f35 slices_Sorted_uint32.C [.fn 51 [(.sl tyW)]] [.fresh tyW] (a0, ()) =
    slices_Sorted_uint32.b c1 a0 := by kernel_rfl
theorem slices_Sorted_uint32.ev (c1 : Z65) (fuel : Nat) (a0 : ((List Int) × Unit)) : evalBy (slices_Sorted_uint32.E c1) fuel Try.f35 slices_Sorted_uint32.C [.fn 51 [(.sl tyW)]] [.fresh tyW] (a0, ()) = slices_Sorted_uint32.f c1 fuel a0 :=
  (slices_Sorted_uint32.b_ev c1 fuel a0)
noncomputable def slices_choosePivotOrdered_uint32.E (c0 : Z66) (c1 : Z67) : Env := envOf Try.prog (pick []) (pick [(93, extBy ⟨[.row tyW, .pure tyI, .cell tyI], [.pure tyI], c0⟩), (94, extBy ⟨[.row tyW, .pure tyI, .pure tyI, .pure tyI, .cell tyI], [.pure tyI], c1⟩)]) (pick [])
noncomputable def slices_choosePivotOrdered_uint32.C : Code := Try.f75.body.getD .skip
theorem slices_choosePivotOrdered_uint32.b_ev (c0 : Z66) (c1 : Z67) (fuel : Nat) (a0 : (List Int)) (a1 : Int) (a2 : Int) : evalBy (slices_choosePivotOrdered_uint32.E c0 c1) fuel Try.f75 slices_choosePivotOrdered_uint32.C [.row tyW, .pure tyI, .pure tyI] [.pure tyI, .pure tyI] (a0, a1, a2, ()) =
    slices_choosePivotOrdered_uint32.b c0 c1 a0 a1 a2 := by kernel_rfl
theorem slices_choosePivotOrdered_uint32.ev (c0 : Z66) (c1 : Z67) (fuel : Nat) (a0 : (List Int)) (a1 : Int) (a2 : Int) : evalBy (slices_choosePivotOrdered_uint32.E c0 c1) fuel Try.f75 slices_choosePivotOrdered_uint32.C [.row tyW, .pure tyI, .pure tyI] [.pure tyI, .pure tyI] (a0, a1, a2, ()) = slices_choosePivotOrdered_uint32.f c0 c1 fuel a0 a1 a2 :=
  (slices_choosePivotOrdered_uint32.b_ev c0 c1 fuel a0 a1 a2)
noncomputable def slices_insertionSortOrdered_uint32.E (c0 : Z68) : Env := envOf Try.prog (pick [(78, ⟨[tyW, tyW], [.pure tyB], c0⟩)]) (pick []) (pick [(1, hn [0, 1, 2, 6]), (4, hn [0, 1, 2, 6, 7])]) (pickB []) true
noncomputable def slices_insertionSortOrdered_uint32.C : Code := Try.f72.body.getD .skip
noncomputable def slices_insertionSortOrdered_uint32.mk0 (a0 : (List Int)) (a1 : Int) (a2 : Int) (s : (Int × (List Int))) : St := { tmps := slots 49 0 [(0, (.one (.own 1))), (1, (.one (.pure tyI a1))), (2, (.one (.pure tyI a2))), (6, (.one (.pure tyI s.1)))], st := [(0, (.ghost [(.one (.own 1)), (.one (.pure tyI a1)), (.one (.pure tyI a2))])), (1, (.row tyW s.2))], next := 2 }
noncomputable def slices_insertionSortOrdered_uint32.mk1 (a0 : (List Int)) (a1 : Int) (a2 : Int) (x0_2 : Int) (s : (Int × (List Int))) : St := { tmps := slots 49 0 [(0, (.one (.own 1))), (1, (.one (.pure tyI a1))), (2, (.one (.pure tyI a2))), (6, (.one (.pure tyI x0_2))), (7, (.one (.pure tyI s.1)))], st := [(0, (.ghost [(.one (.own 1)), (.one (.pure tyI a1)), (.one (.pure tyI a2))])), (1, (.row tyW s.2))], next := 2 }
noncomputable def slices_insertionSortOrdered_uint32.C0 (c0 : Z68) (fuel : Nat) : Code := codeAt (slices_insertionSortOrdered_uint32.E c0) fuel 1 slices_insertionSortOrdered_uint32.C
noncomputable def slices_insertionSortOrdered_uint32.K0 (c0 : Z68) (fuel : Nat) (k0 : Z105) : Ex → St → Option ((Unit) × ((List Int) × Int × Int × Unit)) := contAt (slices_insertionSortOrdered_uint32.E c0) fuel 1 slices_insertionSortOrdered_uint32.C (endBy (slices_insertionSortOrdered_uint32.E c0) [.row tyW, .pure tyI, .pure tyI] [] Try.f72) k0
theorem slices_insertionSortOrdered_uint32.b1_ev (c0 : Z68) (fuel : Nat) (k0 : Z105) (k1 : Z105) (a0 : (List Int)) (a1 : Int) (a2 : Int) (x0_2 : Int) (s : (Int × (List Int))) :
    bodyAt (slices_insertionSortOrdered_uint32.E c0) fuel 4 (slices_insertionSortOrdered_uint32.C0 c0 fuel) (slices_insertionSortOrdered_uint32.K0 c0 fuel k0) k1 (slices_insertionSortOrdered_uint32.mk1 a0 a1 a2 x0_2 s) =
    slices_insertionSortOrdered_uint32.b1 c0 a0 a1 a2 x0_2 (fun t => k0 (slices_insertionSortOrdered_uint32.mk0 a0 a1 a2 t)) (fun t => k1 (slices_insertionSortOrdered_uint32.mk1 a0 a1 a2 x0_2 t)) s := by kernel_rfl
theorem slices_insertionSortOrdered_uint32.l1_ev (c0 : Z68) (fuel : Nat) (k0 : Z105) (a0 : (List Int)) (a1 : Int) (a2 : Int) (x0_2 : Int) (n : Nat) (s : (Int × (List Int))) :
    loopAt (slices_insertionSortOrdered_uint32.E c0) fuel 4 (slices_insertionSortOrdered_uint32.C0 c0 fuel) (slices_insertionSortOrdered_uint32.K0 c0 fuel k0) n (slices_insertionSortOrdered_uint32.mk1 a0 a1 a2 x0_2 s) = slices_insertionSortOrdered_uint32.l1 c0 fuel a0 a1 a2 x0_2 (fun t => k0 (slices_insertionSortOrdered_uint32.mk0 a0 a1 a2 t)) n s :=
  loop_iter (fun k1 s => (slices_insertionSortOrdered_uint32.b1_ev c0 fuel k0 k1 a0 a1 a2 x0_2 s)) n s
theorem slices_insertionSortOrdered_uint32.b0_ev (c0 : Z68) (fuel : Nat) (k0 : Z105) (a0 : (List Int)) (a1 : Int) (a2 : Int) (s : (Int × (List Int))) :
    bodyAt (slices_insertionSortOrdered_uint32.E c0) fuel 1 slices_insertionSortOrdered_uint32.C (endBy (slices_insertionSortOrdered_uint32.E c0) [.row tyW, .pure tyI, .pure tyI] [] Try.f72) k0 (slices_insertionSortOrdered_uint32.mk0 a0 a1 a2 s) =
    slices_insertionSortOrdered_uint32.b0 c0 a0 a1 a2 (fun x0_2 t => loopAt (slices_insertionSortOrdered_uint32.E c0) fuel 4 (slices_insertionSortOrdered_uint32.C0 c0 fuel) (slices_insertionSortOrdered_uint32.K0 c0 fuel k0) fuel (slices_insertionSortOrdered_uint32.mk1 a0 a1 a2 x0_2 t)) (fun t => k0 (slices_insertionSortOrdered_uint32.mk0 a0 a1 a2 t)) s := by kernel_rfl
theorem slices_insertionSortOrdered_uint32.l0_ev (c0 : Z68) (fuel : Nat) (a0 : (List Int)) (a1 : Int) (a2 : Int) (n : Nat) (s : (Int × (List Int))) :
    loopAt (slices_insertionSortOrdered_uint32.E c0) fuel 1 slices_insertionSortOrdered_uint32.C (endBy (slices_insertionSortOrdered_uint32.E c0) [.row tyW, .pure tyI, .pure tyI] [] Try.f72) n (slices_insertionSortOrdered_uint32.mk0 a0 a1 a2 s) = slices_insertionSortOrdered_uint32.l0 c0 fuel a0 a1 a2 n s :=
  loop_iter (fun k0 s => (slices_insertionSortOrdered_uint32.b0_ev c0 fuel k0 a0 a1 a2 s).trans (congrFun (congrFun (congrArg (slices_insertionSortOrdered_uint32.b0 c0 a0 a1 a2) (funext fun x0_2 => funext fun t => slices_insertionSortOrdered_uint32.l1_ev c0 fuel k0 a0 a1 a2 x0_2 fuel t)) (fun t => k0 (slices_insertionSortOrdered_uint32.mk0 a0 a1 a2 t))) s)) n s
theorem slices_insertionSortOrdered_uint32.b_ev (c0 : Z68) (fuel : Nat) (a0 : (List Int)) (a1 : Int) (a2 : Int) : evalBy (slices_insertionSortOrdered_uint32.E c0) fuel Try.f72 slices_insertionSortOrdered_uint32.C [.row tyW, .pure tyI, .pure tyI] [] (a0, a1, a2, ()) =
    slices_insertionSortOrdered_uint32.b c0 a0 a1 a2 (fun t => loopAt (slices_insertionSortOrdered_uint32.E c0) fuel 1 slices_insertionSortOrdered_uint32.C (endBy (slices_insertionSortOrdered_uint32.E c0) [.row tyW, .pure tyI, .pure tyI] [] Try.f72) fuel (slices_insertionSortOrdered_uint32.mk0 a0 a1 a2 t)) := by kernel_rfl
theorem slices_insertionSortOrdered_uint32.ev (c0 : Z68) (fuel : Nat) (a0 : (List Int)) (a1 : Int) (a2 : Int) : evalBy (slices_insertionSortOrdered_uint32.E c0) fuel Try.f72 slices_insertionSortOrdered_uint32.C [.row tyW, .pure tyI, .pure tyI] [] (a0, a1, a2, ()) = slices_insertionSortOrdered_uint32.f c0 fuel a0 a1 a2 :=
  (slices_insertionSortOrdered_uint32.b_ev c0 fuel a0 a1 a2).trans (congrArg (slices_insertionSortOrdered_uint32.b c0 a0 a1 a2) (funext fun t => slices_insertionSortOrdered_uint32.l0_ev c0 fuel a0 a1 a2 fuel t))
noncomputable def slices_medianAdjacentOrdered_uint32.E (c0 : Z67) : Env := envOf Try.prog (pick []) (pick [(94, extBy ⟨[.row tyW, .pure tyI, .pure tyI, .pure tyI, .cell tyI], [.pure tyI], c0⟩)]) (pick [])
noncomputable def slices_medianAdjacentOrdered_uint32.C : Code := Try.f93.body.getD .skip
theorem slices_medianAdjacentOrdered_uint32.b_ev (c0 : Z67) (fuel : Nat) (a0 : (List Int)) (a1 : Int) (a2 : Int) : evalBy (slices_medianAdjacentOrdered_uint32.E c0) fuel Try.f93 slices_medianAdjacentOrdered_uint32.C [.row tyW, .pure tyI, .cell tyI] [.pure tyI] (a0, a1, a2, ()) =
    slices_medianAdjacentOrdered_uint32.b c0 a0 a1 a2 := by kernel_rfl
theorem slices_medianAdjacentOrdered_uint32.ev (c0 : Z67) (fuel : Nat) (a0 : (List Int)) (a1 : Int) (a2 : Int) : evalBy (slices_medianAdjacentOrdered_uint32.E c0) fuel Try.f93 slices_medianAdjacentOrdered_uint32.C [.row tyW, .pure tyI, .cell tyI] [.pure tyI] (a0, a1, a2, ()) = slices_medianAdjacentOrdered_uint32.f c0 fuel a0 a1 a2 :=
  (slices_medianAdjacentOrdered_uint32.b_ev c0 fuel a0 a1 a2)
noncomputable def slices_medianOrdered_uint32.E (c0 : Z71) : Env := envOf Try.prog (pick []) (pick [(100, extBy ⟨[.row tyW, .pure tyI, .pure tyI, .cell tyI], [.pure tyI, .pure tyI], c0⟩)]) (pick [])
noncomputable def slices_medianOrdered_uint32.C : Code := Try.f94.body.getD .skip
theorem slices_medianOrdered_uint32.b_ev (c0 : Z71) (fuel : Nat) (a0 : (List Int)) (a1 : Int) (a2 : Int) (a3 : Int) (a4 : Int) : evalBy (slices_medianOrdered_uint32.E c0) fuel Try.f94 slices_medianOrdered_uint32.C [.row tyW, .pure tyI, .pure tyI, .pure tyI, .cell tyI] [.pure tyI] (a0, a1, a2, a3, a4, ()) =
    slices_medianOrdered_uint32.b c0 a0 a1 a2 a3 a4 := by kernel_rfl
theorem slices_medianOrdered_uint32.ev (c0 : Z71) (fuel : Nat) (a0 : (List Int)) (a1 : Int) (a2 : Int) (a3 : Int) (a4 : Int) : evalBy (slices_medianOrdered_uint32.E c0) fuel Try.f94 slices_medianOrdered_uint32.C [.row tyW, .pure tyI, .pure tyI, .pure tyI, .cell tyI] [.pure tyI] (a0, a1, a2, a3, a4, ()) = slices_medianOrdered_uint32.f c0 fuel a0 a1 a2 a3 a4 :=
  (slices_medianOrdered_uint32.b_ev c0 fuel a0 a1 a2 a3 a4)
noncomputable def slices_order2Ordered_uint32.E (c0 : Z68) : Env := envOf Try.prog (pick [(78, ⟨[tyW, tyW], [.pure tyB], c0⟩)]) (pick []) (pick [])
noncomputable def slices_order2Ordered_uint32.C : Code := Try.f100.body.getD .skip
theorem slices_order2Ordered_uint32.b_ev (c0 : Z68) (fuel : Nat) (a0 : (List Int)) (a1 : Int) (a2 : Int) (a3 : Int) : evalBy (slices_order2Ordered_uint32.E c0) fuel Try.f100 slices_order2Ordered_uint32.C [.row tyW, .pure tyI, .pure tyI, .cell tyI] [.pure tyI, .pure tyI] (a0, a1, a2, a3, ()) =
    slices_order2Ordered_uint32.b c0 a0 a1 a2 a3 := by kernel_rfl
theorem slices_order2Ordered_uint32.ev (c0 : Z68) (fuel : Nat) (a0 : (List Int)) (a1 : Int) (a2 : Int) (a3 : Int) : evalBy (slices_order2Ordered_uint32.E c0) fuel Try.f100 slices_order2Ordered_uint32.C [.row tyW, .pure tyI, .pure tyI, .cell tyI] [.pure tyI, .pure tyI] (a0, a1, a2, a3, ()) = slices_order2Ordered_uint32.f c0 fuel a0 a1 a2 a3 :=
  (slices_order2Ordered_uint32.b_ev c0 fuel a0 a1 a2 a3)
noncomputable def slices_partialInsertionSortOrdered_uint32.E (c0 : Z68) : Env := envOf Try.prog (pick [(78, ⟨[tyW, tyW], [.pure tyB], c0⟩)]) (pick []) (pick [(3, hn [0, 1, 2, 7, 8]), (5, hn [0, 1, 2, 7, 8]), (14, hn [0, 1, 2, 7, 8, 9]), (20, hn [0, 1, 2, 7, 8, 10])]) (pickB []) true
noncomputable def slices_partialInsertionSortOrdered_uint32.C : Code := Try.f77.body.getD .skip
noncomputable def slices_partialInsertionSortOrdered_uint32.mk0 (a0 : (List Int)) (a1 : Int) (a2 : Int) (s : (Int × Int × (List Int))) : St := { tmps := slots 133 0 [(0, (.one (.own 1))), (1, (.one (.pure tyI a1))), (2, (.one (.pure tyI a2))), (7, (.one (.pure tyI s.1))), (8, (.one (.pure tyI s.2.1)))], st := [(0, (.ghost [(.one (.own 1)), (.one (.pure tyI a1)), (.one (.pure tyI a2))])), (1, (.row tyW s.2.2))], next := 2 }
noncomputable def slices_partialInsertionSortOrdered_uint32.mk1 (a0 : (List Int)) (a1 : Int) (a2 : Int) (x0_3 : Int) (x0_6 : (List Int)) (s : Int) : St := { tmps := slots 133 0 [(0, (.one (.own 1))), (1, (.one (.pure tyI a1))), (2, (.one (.pure tyI a2))), (7, (.one (.pure tyI s))), (8, (.one (.pure tyI x0_3)))], st := [(0, (.ghost [(.one (.own 1)), (.one (.pure tyI a1)), (.one (.pure tyI a2))])), (1, (.row tyW x0_6))], next := 2 }
noncomputable def slices_partialInsertionSortOrdered_uint32.mk3 (a0 : (List Int)) (a1 : Int) (a2 : Int) (x1_2 : Int) (x0_3 : Int) (s : (Int × (List Int))) : St := { tmps := slots 133 0 [(0, (.one (.own 1))), (1, (.one (.pure tyI a1))), (2, (.one (.pure tyI a2))), (7, (.one (.pure tyI x1_2))), (8, (.one (.pure tyI x0_3))), (10, (.one (.pure tyI s.1)))], st := [(0, (.ghost [(.one (.own 1)), (.one (.pure tyI a1)), (.one (.pure tyI a2))])), (1, (.row tyW s.2))], next := 2 }
noncomputable def slices_partialInsertionSortOrdered_uint32.mk2 (a0 : (List Int)) (a1 : Int) (a2 : Int) (x1_2 : Int) (x0_3 : Int) (s : (Int × (List Int))) : St := { tmps := slots 133 0 [(0, (.one (.own 1))), (1, (.one (.pure tyI a1))), (2, (.one (.pure tyI a2))), (7, (.one (.pure tyI x1_2))), (8, (.one (.pure tyI x0_3))), (9, (.one (.pure tyI s.1)))], st := [(0, (.ghost [(.one (.own 1)), (.one (.pure tyI a1)), (.one (.pure tyI a2))])), (1, (.row tyW s.2))], next := 2 }
noncomputable def slices_partialInsertionSortOrdered_uint32.C0 (c0 : Z68) (fuel : Nat) : Code := codeAt (slices_partialInsertionSortOrdered_uint32.E c0) fuel 3 slices_partialInsertionSortOrdered_uint32.C
noncomputable def slices_partialInsertionSortOrdered_uint32.K0 (c0 : Z68) (fuel : Nat) (k0 : Z106) : Ex → St → Option ((Bool × Unit) × ((List Int) × Int × Int × Unit)) := contAt (slices_partialInsertionSortOrdered_uint32.E c0) fuel 3 slices_partialInsertionSortOrdered_uint32.C (endBy (slices_partialInsertionSortOrdered_uint32.E c0) [.row tyW, .pure tyI, .pure tyI] [.pure tyB] Try.f77) k0
theorem slices_partialInsertionSortOrdered_uint32.b3_ev (c0 : Z68) (fuel : Nat) (k0 : Z106) (k3 : Z106) (a0 : (List Int)) (a1 : Int) (a2 : Int) (x1_2 : Int) (x0_3 : Int) (s : (Int × (List Int))) :
    bodyAt (slices_partialInsertionSortOrdered_uint32.E c0) fuel 20 (slices_partialInsertionSortOrdered_uint32.C0 c0 fuel) (slices_partialInsertionSortOrdered_uint32.K0 c0 fuel k0) k3 (slices_partialInsertionSortOrdered_uint32.mk3 a0 a1 a2 x1_2 x0_3 s) =
    slices_partialInsertionSortOrdered_uint32.b3 c0 a0 a1 a2 x1_2 x0_3 (fun t => k0 (slices_partialInsertionSortOrdered_uint32.mk0 a0 a1 a2 t)) (fun t => k3 (slices_partialInsertionSortOrdered_uint32.mk3 a0 a1 a2 x1_2 x0_3 t)) s := by kernel_rfl
theorem slices_partialInsertionSortOrdered_uint32.l3_ev (c0 : Z68) (fuel : Nat) (k0 : Z106) (a0 : (List Int)) (a1 : Int) (a2 : Int) (x1_2 : Int) (x0_3 : Int) (n : Nat) (s : (Int × (List Int))) :
    loopAt (slices_partialInsertionSortOrdered_uint32.E c0) fuel 20 (slices_partialInsertionSortOrdered_uint32.C0 c0 fuel) (slices_partialInsertionSortOrdered_uint32.K0 c0 fuel k0) n (slices_partialInsertionSortOrdered_uint32.mk3 a0 a1 a2 x1_2 x0_3 s) = slices_partialInsertionSortOrdered_uint32.l3 c0 fuel a0 a1 a2 x1_2 x0_3 (fun t => k0 (slices_partialInsertionSortOrdered_uint32.mk0 a0 a1 a2 t)) n s :=
  loop_iter (fun k3 s => (slices_partialInsertionSortOrdered_uint32.b3_ev c0 fuel k0 k3 a0 a1 a2 x1_2 x0_3 s)) n s
theorem slices_partialInsertionSortOrdered_uint32.b2_ev (c0 : Z68) (fuel : Nat) (k0 : Z106) (k2 : Z106) (a0 : (List Int)) (a1 : Int) (a2 : Int) (x1_2 : Int) (x0_3 : Int) (s : (Int × (List Int))) :
    bodyAt (slices_partialInsertionSortOrdered_uint32.E c0) fuel 14 (slices_partialInsertionSortOrdered_uint32.C0 c0 fuel) (slices_partialInsertionSortOrdered_uint32.K0 c0 fuel k0) k2 (slices_partialInsertionSortOrdered_uint32.mk2 a0 a1 a2 x1_2 x0_3 s) =
    slices_partialInsertionSortOrdered_uint32.b2 c0 a0 a1 a2 x1_2 x0_3 (fun x1_2 x0_3 t => loopAt (slices_partialInsertionSortOrdered_uint32.E c0) fuel 20 (slices_partialInsertionSortOrdered_uint32.C0 c0 fuel) (slices_partialInsertionSortOrdered_uint32.K0 c0 fuel k0) fuel (slices_partialInsertionSortOrdered_uint32.mk3 a0 a1 a2 x1_2 x0_3 t)) (fun t => k0 (slices_partialInsertionSortOrdered_uint32.mk0 a0 a1 a2 t)) (fun t => k2 (slices_partialInsertionSortOrdered_uint32.mk2 a0 a1 a2 x1_2 x0_3 t)) s := by kernel_rfl
theorem slices_partialInsertionSortOrdered_uint32.l2_ev (c0 : Z68) (fuel : Nat) (k0 : Z106) (a0 : (List Int)) (a1 : Int) (a2 : Int) (x1_2 : Int) (x0_3 : Int) (n : Nat) (s : (Int × (List Int))) :
    loopAt (slices_partialInsertionSortOrdered_uint32.E c0) fuel 14 (slices_partialInsertionSortOrdered_uint32.C0 c0 fuel) (slices_partialInsertionSortOrdered_uint32.K0 c0 fuel k0) n (slices_partialInsertionSortOrdered_uint32.mk2 a0 a1 a2 x1_2 x0_3 s) = slices_partialInsertionSortOrdered_uint32.l2 c0 fuel a0 a1 a2 x1_2 x0_3 (fun t => k0 (slices_partialInsertionSortOrdered_uint32.mk0 a0 a1 a2 t)) n s :=
  loop_iter (fun k2 s => (slices_partialInsertionSortOrdered_uint32.b2_ev c0 fuel k0 k2 a0 a1 a2 x1_2 x0_3 s).trans (congrFun (congrFun (congrFun (congrArg (slices_partialInsertionSortOrdered_uint32.b2 c0 a0 a1 a2 x1_2 x0_3) (funext fun x1_2 => funext fun x0_3 => funext fun t => slices_partialInsertionSortOrdered_uint32.l3_ev c0 fuel k0 a0 a1 a2 x1_2 x0_3 fuel t)) (fun t => k0 (slices_partialInsertionSortOrdered_uint32.mk0 a0 a1 a2 t))) (fun t => k2 (slices_partialInsertionSortOrdered_uint32.mk2 a0 a1 a2 x1_2 x0_3 t))) s)) n s
theorem slices_partialInsertionSortOrdered_uint32.b1_ev (c0 : Z68) (fuel : Nat) (k0 : Z106) (k1 : Z106) (a0 : (List Int)) (a1 : Int) (a2 : Int) (x0_3 : Int) (x0_6 : (List Int)) (s : Int) :
    bodyAt (slices_partialInsertionSortOrdered_uint32.E c0) fuel 5 (slices_partialInsertionSortOrdered_uint32.C0 c0 fuel) (slices_partialInsertionSortOrdered_uint32.K0 c0 fuel k0) k1 (slices_partialInsertionSortOrdered_uint32.mk1 a0 a1 a2 x0_3 x0_6 s) =
    slices_partialInsertionSortOrdered_uint32.b1 c0 a0 a1 a2 x0_3 x0_6 (fun x1_2 x0_3 t => loopAt (slices_partialInsertionSortOrdered_uint32.E c0) fuel 20 (slices_partialInsertionSortOrdered_uint32.C0 c0 fuel) (slices_partialInsertionSortOrdered_uint32.K0 c0 fuel k0) fuel (slices_partialInsertionSortOrdered_uint32.mk3 a0 a1 a2 x1_2 x0_3 t)) (fun x1_2 x0_3 t => loopAt (slices_partialInsertionSortOrdered_uint32.E c0) fuel 14 (slices_partialInsertionSortOrdered_uint32.C0 c0 fuel) (slices_partialInsertionSortOrdered_uint32.K0 c0 fuel k0) fuel (slices_partialInsertionSortOrdered_uint32.mk2 a0 a1 a2 x1_2 x0_3 t)) (fun t => k0 (slices_partialInsertionSortOrdered_uint32.mk0 a0 a1 a2 t)) (fun t => k1 (slices_partialInsertionSortOrdered_uint32.mk1 a0 a1 a2 x0_3 x0_6 t)) s := by kernel_rfl
theorem slices_partialInsertionSortOrdered_uint32.l1_ev (c0 : Z68) (fuel : Nat) (k0 : Z106) (a0 : (List Int)) (a1 : Int) (a2 : Int) (x0_3 : Int) (x0_6 : (List Int)) (n : Nat) (s : Int) :
    loopAt (slices_partialInsertionSortOrdered_uint32.E c0) fuel 5 (slices_partialInsertionSortOrdered_uint32.C0 c0 fuel) (slices_partialInsertionSortOrdered_uint32.K0 c0 fuel k0) n (slices_partialInsertionSortOrdered_uint32.mk1 a0 a1 a2 x0_3 x0_6 s) = slices_partialInsertionSortOrdered_uint32.l1 c0 fuel a0 a1 a2 x0_3 x0_6 (fun t => k0 (slices_partialInsertionSortOrdered_uint32.mk0 a0 a1 a2 t)) n s :=
  loop_iter (fun k1 s => (slices_partialInsertionSortOrdered_uint32.b1_ev c0 fuel k0 k1 a0 a1 a2 x0_3 x0_6 s).trans (congrFun (congrFun (congrFun (congr (congrArg (slices_partialInsertionSortOrdered_uint32.b1 c0 a0 a1 a2 x0_3 x0_6) (funext fun x1_2 => funext fun x0_3 => funext fun t => slices_partialInsertionSortOrdered_uint32.l3_ev c0 fuel k0 a0 a1 a2 x1_2 x0_3 fuel t)) (funext fun x1_2 => funext fun x0_3 => funext fun t => slices_partialInsertionSortOrdered_uint32.l2_ev c0 fuel k0 a0 a1 a2 x1_2 x0_3 fuel t)) (fun t => k0 (slices_partialInsertionSortOrdered_uint32.mk0 a0 a1 a2 t))) (fun t => k1 (slices_partialInsertionSortOrdered_uint32.mk1 a0 a1 a2 x0_3 x0_6 t))) s)) n s
theorem slices_partialInsertionSortOrdered_uint32.b0_ev (c0 : Z68) (fuel : Nat) (k0 : Z106) (a0 : (List Int)) (a1 : Int) (a2 : Int) (s : (Int × Int × (List Int))) :
    bodyAt (slices_partialInsertionSortOrdered_uint32.E c0) fuel 3 slices_partialInsertionSortOrdered_uint32.C (endBy (slices_partialInsertionSortOrdered_uint32.E c0) [.row tyW, .pure tyI, .pure tyI] [.pure tyB] Try.f77) k0 (slices_partialInsertionSortOrdered_uint32.mk0 a0 a1 a2 s) =
    slices_partialInsertionSortOrdered_uint32.b0 c0 a0 a1 a2 (fun x0_3 x0_6 t => loopAt (slices_partialInsertionSortOrdered_uint32.E c0) fuel 5 (slices_partialInsertionSortOrdered_uint32.C0 c0 fuel) (slices_partialInsertionSortOrdered_uint32.K0 c0 fuel k0) fuel (slices_partialInsertionSortOrdered_uint32.mk1 a0 a1 a2 x0_3 x0_6 t)) (fun t => k0 (slices_partialInsertionSortOrdered_uint32.mk0 a0 a1 a2 t)) s := by kernel_rfl
theorem slices_partialInsertionSortOrdered_uint32.l0_ev (c0 : Z68) (fuel : Nat) (a0 : (List Int)) (a1 : Int) (a2 : Int) (n : Nat) (s : (Int × Int × (List Int))) :
    loopAt (slices_partialInsertionSortOrdered_uint32.E c0) fuel 3 slices_partialInsertionSortOrdered_uint32.C (endBy (slices_partialInsertionSortOrdered_uint32.E c0) [.row tyW, .pure tyI, .pure tyI] [.pure tyB] Try.f77) n (slices_partialInsertionSortOrdered_uint32.mk0 a0 a1 a2 s) = slices_partialInsertionSortOrdered_uint32.l0 c0 fuel a0 a1 a2 n s :=
  loop_iter (fun k0 s => (slices_partialInsertionSortOrdered_uint32.b0_ev c0 fuel k0 a0 a1 a2 s).trans (congrFun (congrFun (congrArg (slices_partialInsertionSortOrdered_uint32.b0 c0 a0 a1 a2) (funext fun x0_3 => funext fun x0_6 => funext fun t => slices_partialInsertionSortOrdered_uint32.l1_ev c0 fuel k0 a0 a1 a2 x0_3 x0_6 fuel t)) (fun t => k0 (slices_partialInsertionSortOrdered_uint32.mk0 a0 a1 a2 t))) s)) n s
theorem slices_partialInsertionSortOrdered_uint32.b_ev (c0 : Z68) (fuel : Nat) (a0 : (List Int)) (a1 : Int) (a2 : Int) : evalBy (slices_partialInsertionSortOrdered_uint32.E c0) fuel Try.f77 slices_partialInsertionSortOrdered_uint32.C [.row tyW, .pure tyI, .pure tyI] [.pure tyB] (a0, a1, a2, ()) =
    slices_partialInsertionSortOrdered_uint32.b c0 a0 a1 a2 (fun t => loopAt (slices_partialInsertionSortOrdered_uint32.E c0) fuel 3 slices_partialInsertionSortOrdered_uint32.C (endBy (slices_partialInsertionSortOrdered_uint32.E c0) [.row tyW, .pure tyI, .pure tyI] [.pure tyB] Try.f77) fuel (slices_partialInsertionSortOrdered_uint32.mk0 a0 a1 a2 t)) := by kernel_rfl
theorem slices_partialInsertionSortOrdered_uint32.ev (c0 : Z68) (fuel : Nat) (a0 : (List Int)) (a1 : Int) (a2 : Int) : evalBy (slices_partialInsertionSortOrdered_uint32.E c0) fuel Try.f77 slices_partialInsertionSortOrdered_uint32.C [.row tyW, .pure tyI, .pure tyI] [.pure tyB] (a0, a1, a2, ()) = slices_partialInsertionSortOrdered_uint32.f c0 fuel a0 a1 a2 :=
  (slices_partialInsertionSortOrdered_uint32.b_ev c0 fuel a0 a1 a2).trans (congrArg (slices_partialInsertionSortOrdered_uint32.b c0 a0 a1 a2) (funext fun t => slices_partialInsertionSortOrdered_uint32.l0_ev c0 fuel a0 a1 a2 fuel t))
noncomputable def slices_pdqsortOrdered_uint32.E (c0 : Z77) (c1 : Z78) (c2 : Z79) : Env := envOf Try.prog (pick []) (pick [(72, extBy ⟨[.row tyW, .pure tyI, .pure tyI], [], c0⟩), (75, extBy ⟨[.row tyW, .pure tyI, .pure tyI], [.pure tyI, .pure tyI], c1⟩), (77, extBy ⟨[.row tyW, .pure tyI, .pure tyI], [.pure tyB], c2⟩)]) (pick [(2, [(0, none), (1, none), (2, none), (3, none), (8, none), (9, none)])])
noncomputable def slices_pdqsortOrdered_uint32.C : Code := Try.f60.body.getD .skip
noncomputable def slices_pdqsortOrdered_uint32.mk0 (a0 : (List Int)) (a1 : Int) (a2 : Int) (a3 : Int) (s : (Bool × Bool)) : St := { tmps := slots 134 0 [(0, (.one (.own 1))), (1, (.one (.pure tyI a1))), (2, (.one (.pure tyI a2))), (3, (.one (.pure tyI a3))), (8, (.one (.pure tyB s.1))), (9, (.one (.pure tyB s.2)))], st := [(0, (.ghost [(.one (.own 1)), (.one (.pure tyI a1)), (.one (.pure tyI a2)), (.one (.pure tyI a3))])), (1, (.row tyW a0))], next := 2 }
theorem slices_pdqsortOrdered_uint32.b0_ev (c0 : Z77) (c1 : Z78) (c2 : Z79) (fuel : Nat) (k0 : Z107) (a0 : (List Int)) (a1 : Int) (a2 : Int) (a3 : Int) (s : (Bool × Bool)) :
    bodyAt (slices_pdqsortOrdered_uint32.E c0 c1 c2) fuel 2 slices_pdqsortOrdered_uint32.C (endBy (slices_pdqsortOrdered_uint32.E c0 c1 c2) [.row tyW, .pure tyI, .pure tyI, .pure tyI] [] Try.f60) k0 (slices_pdqsortOrdered_uint32.mk0 a0 a1 a2 a3 s) =
    slices_pdqsortOrdered_uint32.b0 c0 c1 c2 a0 a1 a2 a3 (fun t => k0 (slices_pdqsortOrdered_uint32.mk0 a0 a1 a2 a3 t)) s := by kernel_rfl
theorem slices_pdqsortOrdered_uint32.l0_ev (c0 : Z77) (c1 : Z78) (c2 : Z79) (fuel : Nat) (a0 : (List Int)) (a1 : Int) (a2 : Int) (a3 : Int) (n : Nat) (s : (Bool × Bool)) :
    loopAt (slices_pdqsortOrdered_uint32.E c0 c1 c2) fuel 2 slices_pdqsortOrdered_uint32.C (endBy (slices_pdqsortOrdered_uint32.E c0 c1 c2) [.row tyW, .pure tyI, .pure tyI, .pure tyI] [] Try.f60) n (slices_pdqsortOrdered_uint32.mk0 a0 a1 a2 a3 s) = slices_pdqsortOrdered_uint32.l0 c0 c1 c2 fuel a0 a1 a2 a3 n s :=
  loop_iter (fun k0 s => (slices_pdqsortOrdered_uint32.b0_ev c0 c1 c2 fuel k0 a0 a1 a2 a3 s)) n s
theorem slices_pdqsortOrdered_uint32.b_ev (c0 : Z77) (c1 : Z78) (c2 : Z79) (fuel : Nat) (a0 : (List Int)) (a1 : Int) (a2 : Int) (a3 : Int) : evalBy (slices_pdqsortOrdered_uint32.E c0 c1 c2) fuel Try.f60 slices_pdqsortOrdered_uint32.C [.row tyW, .pure tyI, .pure tyI, .pure tyI] [] (a0, a1, a2, a3, ()) =
    slices_pdqsortOrdered_uint32.b c0 c1 c2 a0 a1 a2 a3 (fun t => loopAt (slices_pdqsortOrdered_uint32.E c0 c1 c2) fuel 2 slices_pdqsortOrdered_uint32.C (endBy (slices_pdqsortOrdered_uint32.E c0 c1 c2) [.row tyW, .pure tyI, .pure tyI, .pure tyI] [] Try.f60) fuel (slices_pdqsortOrdered_uint32.mk0 a0 a1 a2 a3 t)) := by kernel_rfl
theorem slices_pdqsortOrdered_uint32.ev (c0 : Z77) (c1 : Z78) (c2 : Z79) (fuel : Nat) (a0 : (List Int)) (a1 : Int) (a2 : Int) (a3 : Int) : evalBy (slices_pdqsortOrdered_uint32.E c0 c1 c2) fuel Try.f60 slices_pdqsortOrdered_uint32.C [.row tyW, .pure tyI, .pure tyI, .pure tyI] [] (a0, a1, a2, a3, ()) = slices_pdqsortOrdered_uint32.f c0 c1 c2 fuel a0 a1 a2 a3 :=
  (slices_pdqsortOrdered_uint32.b_ev c0 c1 c2 fuel a0 a1 a2 a3).trans (congrArg (slices_pdqsortOrdered_uint32.b c0 c1 c2 a0 a1 a2 a3) (funext fun t => slices_pdqsortOrdered_uint32.l0_ev c0 c1 c2 fuel a0 a1 a2 a3 fuel t))
end BE
end
section
set_option linter.unusedVariables false
set_option maxRecDepth 100000
namespace BE
open Go Go.Ev Go.Proofs Go.Shelf Go.RowKit
def l35_ren : Go.Shelf.Ren := ⟨fun | 6 => 39 | 15 => 55 | 14 => 54 | 28 => 70 | 29 => 71 | 20 => 62 | 21 => 63 | 22 => 64 | 23 => 65 | 24 => 66 | 25 => 67 | 26 => 68 | 27 => 69 | 46 => 87 | 47 => 88 | 48 => 89 | 49 => 90 | 50 => 91 | 57 => 99 | n => n, fun | 22 => 49 | 24 => 28 | 25 => 73 | 3 => 3 | 39 => 61 | 0 => 0 | 53 => 26 | 55 => 106 | 4 => 4 | 46 => 98 | 45 => 97 | 50 => 102 | 5 => 5 | 9 => 9 | 66 => 117 | 70 => 121 | 76 => 129 | 77 => 130 | n => n, fun | n => n⟩
theorem l35 : Go.Proofs.SlLaysF0.n6 Try.prog l35_ren := {
  mixed := by kernel_rfl
  f6 := ⟨Try.f39.name, by decide, Try.func39.trans (congrArg some (by kernel_rfl))⟩
  f14 := ⟨Try.f54.name, by decide, Try.func54.trans (congrArg some (by kernel_rfl))⟩
  f15 := Try.func55.trans (congrArg some (by kernel_rfl))
  f20 := ⟨Try.f62.name, by decide, Try.func62.trans (congrArg some (by kernel_rfl))⟩
  f21 := ⟨Try.f63.name, by decide, Try.func63.trans (congrArg some (by kernel_rfl))⟩
  f22 := ⟨Try.f64.name, by decide, Try.func64.trans (congrArg some (by kernel_rfl))⟩
  f23 := ⟨Try.f65.name, by decide, Try.func65.trans (congrArg some (by kernel_rfl))⟩
  f24 := ⟨Try.f66.name, by decide, Try.func66.trans (congrArg some (by kernel_rfl))⟩
  f25 := ⟨Try.f67.name, by decide, Try.func67.trans (congrArg some (by kernel_rfl))⟩
  f26 := ⟨Try.f68.name, by decide, Try.func68.trans (congrArg some (by kernel_rfl))⟩
  f27 := ⟨Try.f69.name, by decide, Try.func69.trans (congrArg some (by kernel_rfl))⟩
  f28 := Try.func70.trans (congrArg some (by kernel_rfl))
  f29 := Try.func71.trans (congrArg some (by kernel_rfl))
  f46 := ⟨Try.f87.name, by decide, Try.func87.trans (congrArg some (by kernel_rfl))⟩
  f47 := Try.func88.trans (congrArg some (by kernel_rfl))
  f48 := Try.func89.trans (congrArg some (by kernel_rfl))
  f49 := ⟨Try.f90.name, by decide, Try.func90.trans (congrArg some (by kernel_rfl))⟩
  f50 := ⟨Try.f91.name, by decide, Try.func91.trans (congrArg some (by kernel_rfl))⟩
  f57 := ⟨Try.f99.name, by decide, Try.func99.trans (congrArg some (by kernel_rfl))⟩
  t0 := Try.underlying0
  a0 := Try.isAgg0
  z0 := Try.sizeOf0
  v0 := Try.zeroValue0
  t3 := Try.underlying3
  a3 := Try.isAgg3
  z3 := Try.sizeOf3
  v3 := Try.zeroValue3
  t4 := Try.underlying4
  a4 := Try.isAgg4
  z4 := Try.sizeOf4
  v4 := Try.zeroValue4
  t5 := Try.underlying5
  a5 := Try.isAgg5
  z5 := Try.sizeOf5
  v5 := Try.zeroValue5
  t9 := Try.underlying9
  a9 := Try.isAgg9
  z9 := Try.sizeOf9
  v9 := Try.zeroValue9
  t22 := Try.underlying49
  a22 := Try.isAgg49
  z22 := Try.sizeOf49
  v22 := Try.zeroValue49
  t25 := Try.underlying73
  a25 := Try.isAgg73
  z25 := Try.sizeOf73
  v25 := Try.zeroValue73
  t39 := Try.underlying61
  a39 := Try.isAgg61
  z39 := Try.sizeOf61
  v39 := Try.zeroValue61
  t45 := Try.underlying97
  a45 := Try.isAgg97
  z45 := Try.sizeOf97
  v45 := Try.zeroValue97
  t46 := Try.underlying98
  a46 := Try.isAgg98
  z46 := Try.sizeOf98
  v46 := Try.zeroValue98
  t50 := Try.underlying102
  a50 := Try.isAgg102
  z50 := Try.sizeOf102
  v50 := Try.zeroValue102
  t53 := Try.underlying26
  a53 := Try.isAgg26
  z53 := Try.sizeOf26
  v53 := Try.zeroValue26
  t55 := Try.underlying106
  a55 := Try.isAgg106
  z55 := Try.sizeOf106
  v55 := Try.zeroValue106
  t66 := Try.underlying117
  a66 := Try.isAgg117
  z66 := Try.sizeOf117
  v66 := Try.zeroValue117
  t70 := Try.underlying121
  a70 := Try.isAgg121
  z70 := Try.sizeOf121
  v70 := Try.zeroValue121
  t76 := Try.underlying129
  a76 := Try.isAgg129
  z76 := Try.sizeOf129
  v76 := Try.zeroValue129
  t77 := Try.underlying130
  a77 := Try.isAgg130
  z77 := Try.sizeOf130
  v77 := Try.zeroValue130 }
theorem mix : Try.prog.follows .mixedOrders = true := by kernel_rfl
noncomputable def addr_Mask.sp : Ev.Spec := ⟨[tyI], [.pure tyW], fun x => addr_Mask.f FU x.1⟩
noncomputable abbrev addr_Mask.F := addr_Mask.sp.F
theorem addr_Mask.ent : Entered Try.prog 29 := entered_of Try.func29 (by kernel_rfl) (c := addr_Mask.C) (by kernel_rfl)
theorem addr_Mask.ok {tr : Bool} : Pure tr Try.prog 29 addr_Mask.sp := pure_of_eval (E := addr_Mask.E) (envOf_ok _ _ _ (pick_ok (fun _ h => absurd h List.not_mem_nil)) (pick_ext (fun _ h => absurd h List.not_mem_nil))) mix Try.func29 (c := addr_Mask.C) (by kernel_rfl) fun ⟨a0, ()⟩ _ h => ⟨FU, (addr_Mask.ev FU a0).trans h⟩
noncomputable def addr_Right.sp : Ev.Spec := ⟨[tyPrefix], [.pure tyB], fun x => addr_Right.f addr_Mask.F FU x.1⟩
noncomputable abbrev addr_Right.F := addr_Right.sp.F
theorem addr_Right.ent : Entered Try.prog 15 := entered_of Try.func15 (by kernel_rfl) (c := addr_Right.C) (by kernel_rfl)
theorem addr_Right.ok {tr : Bool} : Pure tr Try.prog 15 addr_Right.sp := pure_of_eval (E := addr_Right.E addr_Mask.F) (envOf_ok _ _ _ (pick_ok (List.forall_mem_cons.2 ⟨⟨addr_Mask.ent, addr_Mask.ok⟩, (fun _ h => absurd h List.not_mem_nil)⟩)) (pick_ext (fun _ h => absurd h List.not_mem_nil))) mix Try.func15 (c := addr_Right.C) (by kernel_rfl) fun ⟨a0, ()⟩ _ h => ⟨FU, (addr_Right.ev addr_Mask.F FU a0).trans h⟩
noncomputable def addr_Less.sp : Ev.Spec := ⟨[tyPrefix, tyPrefix], [.pure tyB], fun x => addr_Less.f addr_Right.F FU x.1 x.2.1⟩
noncomputable abbrev addr_Less.F := addr_Less.sp.F
theorem addr_Less.ent : Entered Try.prog 46 := entered_of Try.func46 (by kernel_rfl) (c := addr_Less.C) (by kernel_rfl)
theorem addr_Less.ok {tr : Bool} : Pure tr Try.prog 46 addr_Less.sp := pure_of_eval (E := addr_Less.E addr_Right.F) (envOf_ok _ _ _ (pick_ok (List.forall_mem_cons.2 ⟨⟨addr_Right.ent, addr_Right.ok⟩, (fun _ h => absurd h List.not_mem_nil)⟩)) (pick_ext (fun _ h => absurd h List.not_mem_nil))) mix Try.func46 (c := addr_Less.C) (by kernel_rfl) fun ⟨a0, a1, ()⟩ _ h => ⟨FU, (addr_Less.ev addr_Right.F FU a0 a1).trans h⟩
noncomputable def addr_Cmp.sp : Ev.Spec := ⟨[tyPrefix, tyPrefix], [.pure tyI], fun x => addr_Cmp.f addr_Less.F FU x.1 x.2.1⟩
noncomputable abbrev addr_Cmp.F := addr_Cmp.sp.F
theorem addr_Cmp.ent : Entered Try.prog 27 := entered_of Try.func27 (by kernel_rfl) (c := addr_Cmp.C) (by kernel_rfl)
theorem addr_Cmp.ok {tr : Bool} : Pure tr Try.prog 27 addr_Cmp.sp := pure_of_eval (E := addr_Cmp.E addr_Less.F) (envOf_ok _ _ _ (pick_ok (List.forall_mem_cons.2 ⟨⟨addr_Less.ent, addr_Less.ok⟩, (fun _ h => absurd h List.not_mem_nil)⟩)) (pick_ext (fun _ h => absurd h List.not_mem_nil))) mix Try.func27 (c := addr_Cmp.C) (by kernel_rfl) fun ⟨a0, a1, ()⟩ _ h => ⟨FU, (addr_Cmp.ev addr_Less.F FU a0 a1).trans h⟩
noncomputable def Ref1_Mask.sp : Ev.Spec := ⟨[tyI], [.pure tyW], fun x => Ref1_Mask.f FU x.1⟩
noncomputable abbrev Ref1_Mask.F := Ref1_Mask.sp.F
theorem Ref1_Mask.ent : Entered Try.prog 52 := entered_of Try.func52 (by kernel_rfl) (c := Ref1_Mask.C) (by kernel_rfl)
theorem Ref1_Mask.ok {tr : Bool} : Pure tr Try.prog 52 Ref1_Mask.sp := pure_of_eval (E := Ref1_Mask.E) (envOf_ok _ _ _ (pick_ok (fun _ h => absurd h List.not_mem_nil)) (pick_ext (fun _ h => absurd h List.not_mem_nil))) mix Try.func52 (c := Ref1_Mask.C) (by kernel_rfl) fun ⟨a0, ()⟩ _ h => ⟨FU, (Ref1_Mask.ev FU a0).trans h⟩
noncomputable def Ref1_Right.sp : Ev.Spec := ⟨[tyPrefix], [.pure tyB], fun x => Ref1_Right.f Ref1_Mask.F FU x.1⟩
noncomputable abbrev Ref1_Right.F := Ref1_Right.sp.F
theorem Ref1_Right.ent : Entered Try.prog 40 := entered_of Try.func40 (by kernel_rfl) (c := Ref1_Right.C) (by kernel_rfl)
theorem Ref1_Right.ok {tr : Bool} : Pure tr Try.prog 40 Ref1_Right.sp := pure_of_eval (E := Ref1_Right.E Ref1_Mask.F) (envOf_ok _ _ _ (pick_ok (List.forall_mem_cons.2 ⟨⟨Ref1_Mask.ent, Ref1_Mask.ok⟩, (fun _ h => absurd h List.not_mem_nil)⟩)) (pick_ext (fun _ h => absurd h List.not_mem_nil))) mix Try.func40 (c := Ref1_Right.C) (by kernel_rfl) fun ⟨a0, ()⟩ _ h => ⟨FU, (Ref1_Right.ev Ref1_Mask.F FU a0).trans h⟩
noncomputable def Ref1_Less.sp : Ev.Spec := ⟨[tyPrefix, tyPrefix], [.pure tyB], fun x => Ref1_Less.f Ref1_Right.F FU x.1 x.2.1⟩
noncomputable abbrev Ref1_Less.F := Ref1_Less.sp.F
theorem Ref1_Less.ent : Entered Try.prog 23 := entered_of Try.func23 (by kernel_rfl) (c := Ref1_Less.C) (by kernel_rfl)
theorem Ref1_Less.ok {tr : Bool} : Pure tr Try.prog 23 Ref1_Less.sp := pure_of_eval (E := Ref1_Less.E Ref1_Right.F) (envOf_ok _ _ _ (pick_ok (List.forall_mem_cons.2 ⟨⟨Ref1_Right.ent, Ref1_Right.ok⟩, (fun _ h => absurd h List.not_mem_nil)⟩)) (pick_ext (fun _ h => absurd h List.not_mem_nil))) mix Try.func23 (c := Ref1_Less.C) (by kernel_rfl) fun ⟨a0, a1, ()⟩ _ h => ⟨FU, (Ref1_Less.ev Ref1_Right.F FU a0 a1).trans h⟩
noncomputable def Ref1_Of.sp : Ev.Spec := ⟨[tyW, tyI], [.pure tyPrefix], fun x => Ref1_Of.f Ref1_Mask.F FU x.1 x.2.1⟩
noncomputable abbrev Ref1_Of.F := Ref1_Of.sp.F
theorem Ref1_Of.ent : Entered Try.prog 37 := entered_of Try.func37 (by kernel_rfl) (c := Ref1_Of.C) (by kernel_rfl)
theorem Ref1_Of.ok {tr : Bool} : Pure tr Try.prog 37 Ref1_Of.sp := pure_of_eval (E := Ref1_Of.E Ref1_Mask.F) (envOf_ok _ _ _ (pick_ok (List.forall_mem_cons.2 ⟨⟨Ref1_Mask.ent, Ref1_Mask.ok⟩, (fun _ h => absurd h List.not_mem_nil)⟩)) (pick_ext (fun _ h => absurd h List.not_mem_nil))) mix Try.func37 (c := Ref1_Of.C) (by kernel_rfl) fun ⟨a0, a1, ()⟩ _ h => ⟨FU, (Ref1_Of.ev Ref1_Mask.F FU a0 a1).trans h⟩
end BE
end
section
set_option linter.unusedVariables false
set_option linter.unusedSimpArgs false
namespace BE
open Go Go.Ev
theorem iterN_eq {σ R : Type} {B : (σ → Option R) → σ → Option R} {F : σ → Option R} (Inv : σ → Prop) (m : σ → Nat)
    (h : ∀ s k, Inv s → (∀ s', Inv s' → m s' < m s → k s' = F s') → B k s = F s) : ∀ n s, Inv s → m s < n → iterN B n s = F s
  | 0, s, _, hn => absurd hn (Nat.not_lt_zero _)
  | n + 1, s, hi, hn => h s (iterN B n) hi fun s' hi' hm => iterN_eq Inv m h n s' hi' (by omega)
theorem wrap_id {x : Int} (h0 : -9223372036854775808 ≤ x) (h1 : x < 9223372036854775808) : wI x = x := by
  unfold wI
  rw [IntKind.wrap_i64]
  omega
theorem wrap_succ {i n : Nat} (h : i < n) (hn : n < 4611686018427387904) : wI ((i : Int) + 1) = ((i + 1 : Nat) : Int) := by
  rw [wrap_id] <;> omega
theorem wrap_pred {i n : Nat} (h0 : 0 < i) (h : i ≤ n) (hn : n < 4611686018427387904) : wI ((i : Int) - 1) = ((i - 1 : Nat) : Int) := by
  rw [wrap_id] <;> omega
theorem wrap_u32 {x : Int} (h0 : 0 ≤ x) (h1 : x < 4294967296) : IntKind.u32.wrap x = x := by
  show x % (2 ^ 32 : Nat) = x
  omega
theorem FU_lt {n : Nat} (h : n < 4611686018427387904) : n < FU := by
  rw [FU_eq]
  omega
def maskV (n : Int) : Int := 4294967296 - 2 ^ (32 - n.toNat)
theorem FU_more : ∃ m, FU = m + 100 := ⟨FU - 100, by rw [FU_eq]⟩
theorem mask1 : ∀ n : Nat, n ≤ 32 → addr_Mask.F ((n : Int), ()) = some (maskV n, ()) := by
  have : ∀ n : Fin 33, addr_Mask.b ((n.val : Nat) : Int) = some (maskV (n.val : Nat), ()) := by decide
  exact fun n h => this ⟨n, by omega⟩
theorem mask_step : ∀ i : Fin 32, IntKind.u32.wrap (↑(BitVec.ofInt IntKind.u32.bits (maskV (i.val : Nat)) ||| BitVec.ofInt IntKind.u32.bits (IntKind.u32.wrap ((1 : Int) * (2 : Int) ^ min (IntKind.u64.wrap (wI ((31 : Int) - (i.val : Nat)))).toNat IntKind.u32.bits))).toNat : Int) = maskV ((i.val + 1 : Nat) : Int) ∧
    decide ((0 : Int) ≤ IntKind.u64.wrap (wI ((31 : Int) - (i.val : Nat)))) = true := by decide
theorem mask2 (n : Nat) (h : n ≤ 32) : Ref1_Mask.F ((n : Int), ()) = some (maskV n, ()) := by
  show iterN (fun k0 s => Ref1_Mask.b0 (n : Int) k0 s) FU (0, 0) = _
  refine iterN_eq (F := fun _ => some (maskV n, ())) (fun s : Int × Int => ∃ i : Nat, i ≤ n ∧ s = (maskV i, (i : Int))) (fun s => n - s.2.toNat) ?_ FU (0, 0) ⟨0, Nat.zero_le _, by decide⟩ (FU_lt (by simp; omega))
  rintro s k ⟨i, hi, rfl⟩ hk
  unfold Ref1_Mask.b0
  simp only
  by_cases hlt : i < n
  · obtain ⟨e1, e2⟩ := mask_step ⟨i, by omega⟩
    rw [decide_eq_true (show (i : Int) < n by omega), decide_eq_true (show (i : Int) < 32 by omega), e2]
    simp only [cond_true]
    rw [show wI ((i : Int) + 1) = ((i + 1 : Nat) : Int) from wrap_succ (n := 32) (by omega) (by omega)]
    exact hk _ ⟨i + 1, hlt, Prod.ext e1 rfl⟩ (by simp; omega)
  · have : i = n := by omega
    subst this
    rw [decide_eq_false (show ¬ (i : Int) < i by omega)]
    rfl
theorem and_parts (x m : BitVec 32) : (x &&& m).toNat + (x &&& ~~~m).toNat = x.toNat := by
  have hd : (x &&& m) &&& (x &&& ~~~m) = 0#32 := by
    apply BitVec.eq_of_getElem_eq
    intro i hi
    simp only [BitVec.getElem_and, BitVec.getElem_not, BitVec.getElem_zero]
    cases x[i] <;> cases m[i] <;> rfl
  have ho : (x &&& m) ||| (x &&& ~~~m) = x := by
    apply BitVec.eq_of_getElem_eq
    intro i hi
    simp only [BitVec.getElem_and, BitVec.getElem_not, BitVec.getElem_or]
    cases x[i] <;> cases m[i] <;> rfl
  rw [← BitVec.toNat_add_of_and_eq_zero hd, BitVec.add_eq_or_of_and_eq_zero _ _ hd, ho]
theorem bits_lo {a : Int} (h0 : 0 ≤ a) (h1 : a < 4294967296) (k : Nat) (hk : k ≤ 32) :
    IntKind.u32.wrap (↑(BitVec.ofInt IntKind.u32.bits a &&& ~~~BitVec.ofInt IntKind.u32.bits (4294967296 - 2 ^ k)).toNat : Int) = a % 2 ^ k ∧
    IntKind.u32.wrap (↑(BitVec.ofInt IntKind.u32.bits a &&& BitVec.ofInt IntKind.u32.bits (4294967296 - 2 ^ k)).toNat : Int) = a - a % 2 ^ k := by
  obtain ⟨n, rfl⟩ := Int.eq_ofNat_of_zero_le h0
  have hn : n < 2 ^ 32 := by omega
  have hp : (2 : Nat) ^ k ≤ 2 ^ 32 := Nat.pow_le_pow_right (by omega) hk
  have hpos : 0 < 2 ^ k := Nat.two_pow_pos k
  have e0 : (BitVec.ofInt 32 ((n : Nat) : Int)).toNat = n := by rw [BitVec.ofInt_natCast, BitVec.toNat_ofNat]; exact Nat.mod_eq_of_lt hn
  have em : (BitVec.ofInt 32 (4294967296 - 2 ^ k)).toNat = (2 ^ 32 - 2 ^ k) % 2 ^ 32 := by
    rw [show (4294967296 - 2 ^ k : Int) = ((2 ^ 32 - 2 ^ k : Nat) : Int) by rw [Int.ofNat_sub hp]; simp, BitVec.ofInt_natCast, BitVec.toNat_ofNat]
  have hlow : n &&& (2 ^ k - 1) = n % 2 ^ k := Nat.and_two_pow_sub_one_eq_mod n k
  have hcast : ((n : Int) % 2 ^ k) = ((n % 2 ^ k : Nat) : Int) := by simp
  have hle := Nat.mod_le n (2 ^ k)
  have hnm : (~~~BitVec.ofInt 32 (4294967296 - 2 ^ k)).toNat = 2 ^ k - 1 := by
    rw [BitVec.toNat_not, em, Nat.mod_eq_of_lt (by omega)]
    omega
  have h1 : (BitVec.ofInt 32 ((n : Nat) : Int) &&& ~~~BitVec.ofInt 32 (4294967296 - 2 ^ k)).toNat = n % 2 ^ k := by
    rw [BitVec.toNat_and, e0, hnm, hlow]
  have h2 : (BitVec.ofInt 32 ((n : Nat) : Int) &&& BitVec.ofInt 32 (4294967296 - 2 ^ k)).toNat = n - n % 2 ^ k := by
    have hsum := and_parts (BitVec.ofInt 32 ((n : Nat) : Int)) (BitVec.ofInt 32 (4294967296 - 2 ^ k))
    rw [e0] at hsum
    omega
  constructor
  · show IntKind.u32.wrap (((BitVec.ofInt 32 ((n : Nat) : Int) &&& ~~~BitVec.ofInt 32 (4294967296 - 2 ^ k)).toNat : Nat) : Int) = _
    rw [h1, hcast, wrap_u32 (by omega) (by omega)]
  · show IntKind.u32.wrap (((BitVec.ofInt 32 ((n : Nat) : Int) &&& BitVec.ofInt 32 (4294967296 - 2 ^ k)).toNat : Nat) : Int) = _
    rw [h2, hcast, wrap_u32 (by omega) (by omega)]
    omega
def rightB (p : TPrefix) : Bool := decide (0 ≤ p.2) && (decide (p.2 ≤ 32) && (p.1 % 2 ^ (32 - p.2.toNat) == 0))
theorem rightB_iff {p : TPrefix} (h0 : 0 ≤ p.1) (h1 : p.1 < 4294967296) : rightB p = true ↔ prefOk p := by
  unfold rightB prefOk
  simp only [Bool.and_eq_true, decide_eq_true_eq, beq_iff_eq]
  constructor
  · rintro ⟨a, b, c⟩
    exact ⟨h0, h1, a, b, c⟩
  · rintro ⟨_, _, a, b, c⟩
    exact ⟨a, b, c⟩
theorem right_b {c0 : Int × Unit → Option (Int × Unit)} (hc : ∀ n : Nat, n ≤ 32 → c0 ((n : Int), ()) = some (maskV n, ())) {p : TPrefix} (h0 : 0 ≤ p.1) (h1 : p.1 < 4294967296) : addr_Right.b c0 p = some (rightB p, ()) := by
  unfold addr_Right.b rightB
  by_cases a : p.2 < 0
  · rw [decide_eq_false (show ¬ p.2 ≥ 0 by omega)]
    rfl
  · by_cases b : p.2 ≤ 32
    · obtain ⟨n, hn⟩ := Int.eq_ofNat_of_zero_le (show 0 ≤ p.2 by omega)
      rw [hn] at b ⊢
      rw [decide_eq_true (show (n : Int) ≥ 0 by omega), decide_eq_true b, hc n (by omega)]
      simp only [cond_true, Option.bind_some, Bool.true_and]
      have := (bits_lo h0 h1 (32 - n) (by omega)).1
      unfold maskV
      rw [Int.toNat_natCast, this]
    · rw [decide_eq_true (show p.2 ≥ 0 by omega), decide_eq_false b]
      simp
theorem right_eq {p : TPrefix} (h0 : 0 ≤ p.1) (h1 : p.1 < 4294967296) : addr_Right.F (p, ()) = some (rightB p, ()) ∧ Ref1_Right.F (p, ()) = some (rightB p, ()) :=
  ⟨right_b mask1 h0 h1, right_b mask2 h0 h1⟩
theorem less_b {c0 : TPrefix × Unit → Option (Bool × Unit)} (hc : ∀ p : TPrefix, prefOk p → c0 (p, ()) = some (true, ())) {p q : TPrefix} (hp : prefOk p) (hq : prefOk q) : addr_Less.b c0 p q = some (prefLt p q, ()) := by
  unfold addr_Less.b prefLt
  rw [hc p hp, hc q hq]
  simp only [Option.bind_some, Bool.not_true, cond_false]
  by_cases a : p.1 < q.1
  · rw [decide_eq_true a]
    rfl
  · rw [decide_eq_false a]
    by_cases b : p.1 = q.1
    · rw [decide_eq_true b, show (p.1 == q.1) = true from beq_iff_eq.2 b]
      simp
    · rw [decide_eq_false b, show (p.1 == q.1) = false from beq_eq_false_iff_ne.2 b]
      simp
theorem right_ok {p : TPrefix} (hp : prefOk p) : addr_Right.F (p, ()) = some (true, ()) ∧ Ref1_Right.F (p, ()) = some (true, ()) := by
  have := right_eq (p := p) hp.1 hp.2.1
  rw [(rightB_iff hp.1 hp.2.1).2 hp] at this
  exact this
theorem less_eq {p q : TPrefix} (hp : prefOk p) (hq : prefOk q) : addr_Less.F (p, q, ()) = some (prefLt p q, ()) ∧ Ref1_Less.F (p, q, ()) = some (prefLt p q, ()) :=
  ⟨less_b (fun p h => (right_ok h).1) hp hq, less_b (fun p h => (right_ok h).2) hp hq⟩
theorem cmp_eq {p q : TPrefix} (hp : prefOk p) (hq : prefOk q) : ∃ r : Int, addr_Cmp.F (p, q, ()) = some (r, ()) ∧ (r < 0 ↔ prefLt p q = true) := by
  show ∃ r : Int, addr_Cmp.b addr_Less.F p q = some (r, ()) ∧ (r < 0 ↔ prefLt p q = true)
  unfold addr_Cmp.b
  rw [(less_eq hp hq).1, (less_eq hq hp).1]
  simp only [Option.bind_some]
  cases prefLt p q with
  | true => exact ⟨_, rfl, by simp⟩
  | false =>
    cases prefLt q p with
    | true => exact ⟨_, rfl, by simp⟩
    | false => exact ⟨_, rfl, by simp⟩
theorem of_eq {a : Int} {n : Nat} (h0 : 0 ≤ a) (h1 : a < 4294967296) (hn : n ≤ 32) : ∃ p, Ref1_Of.F (a, (n : Int), ()) = some (p, ()) ∧ prefOk p := by
  show ∃ p, Ref1_Of.b Ref1_Mask.F a n = some (p, ()) ∧ prefOk p
  unfold Ref1_Of.b
  rw [decide_eq_false (show ¬ (n : Int) < 0 by omega), decide_eq_false (show ¬ (n : Int) > 32 by omega), mask2 n hn]
  simp only [cond_false, Option.bind_some]
  refine ⟨_, rfl, ?_⟩
  have h2 := (bits_lo h0 h1 (32 - n) (by omega)).2
  unfold maskV
  rw [Int.toNat_natCast, h2]
  have hpos : (0 : Int) < 2 ^ (32 - n) := Int.pow_pos (by omega)
  have h3 := Int.emod_nonneg a (show (2 : Int) ^ (32 - n) ≠ 0 by omega)
  have h5 := Int.mul_ediv_add_emod a (2 ^ (32 - n))
  have h6 := Int.mul_nonneg (Int.le_of_lt hpos) (Int.ediv_nonneg h0 (Int.le_of_lt hpos))
  have h4 : a % 2 ^ (32 - n) ≤ a := by omega
  refine ⟨?_, ?_, by simp, by simp; omega, ?_⟩
  · show 0 ≤ a - a % 2 ^ (32 - n)
    omega
  · show a - a % 2 ^ (32 - n) < 4294967296
    omega
  · show (a - a % 2 ^ (32 - n)) % 2 ^ (32 - ((n : Int)).toNat) = 0
    rw [Int.toNat_natCast]
    rw [show a - a % 2 ^ (32 - n) = 2 ^ (32 - n) * (a / 2 ^ (32 - n)) by omega]
    exact Int.mul_emod_right _ _
end BE
end
