/- Contracts and laws that the claim needs, packed from several texts. -/
import Derived.Ground.SlsfProg
import Derived.Laws.Cover2
import Derived.Laws.Externs
import Derived.Shelf.SlGeneric
import Derived.Tactics
import Derived.Test.YtkjhofadaoofcaaGreatProg
import Derived.Test.YtkjhofadaoofcaaGreatQe
import Derived.Test.YtkjhofadaoofcaaGreatQs
section
set_option linter.unusedVariables false
set_option maxRecDepth 100000
open Go Go.Ev Go.Proofs
namespace BE
noncomputable def Book_Same_api_Prefix.E : Env := envOf Tryz.prog (pick []) (pick []) (pick [(4, [(0, none), (1, none), (5, none)])])
noncomputable def Book_Same_api_Prefix.C : Code := Tryz.f41.body.getD .skip
noncomputable def Book_Same_api_Prefix.mk0 (a0 : (List TPrefix)) (a1 : (List TPrefix)) (s : Int) : St := { tmps := slots 26 0 [(0, (.one (.pure (.sl tyPrefix) a0))), (1, (.one (.pure (.sl tyPrefix) a1))), (5, (.one (.pure tyI s)))], st := [], next := 0 }
theorem Book_Same_api_Prefix.b0_ev (fuel : Nat) (k0 : St → Option (Bool × Unit)) (a0 : (List TPrefix)) (a1 : (List TPrefix)) (s : Int) :
    bodyAt (Book_Same_api_Prefix.E) fuel 4 Book_Same_api_Prefix.C (endK (Book_Same_api_Prefix.E) [.pure tyB] Tryz.f41) k0 (Book_Same_api_Prefix.mk0 a0 a1 s) =
    Book_Same_api_Prefix.b0 a0 a1 (fun t => k0 (Book_Same_api_Prefix.mk0 a0 a1 t)) s := by kernel_rfl
theorem Book_Same_api_Prefix.l0_ev (fuel : Nat) (a0 : (List TPrefix)) (a1 : (List TPrefix)) (n : Nat) (s : Int) :
    loopAt (Book_Same_api_Prefix.E) fuel 4 Book_Same_api_Prefix.C (endK (Book_Same_api_Prefix.E) [.pure tyB] Tryz.f41) n (Book_Same_api_Prefix.mk0 a0 a1 s) = Book_Same_api_Prefix.l0 fuel a0 a1 n s :=
  loop_iter (fun k0 s => (Book_Same_api_Prefix.b0_ev fuel k0 a0 a1 s)) n s
theorem Book_Same_api_Prefix.b_ev (fuel : Nat) (a0 : (List TPrefix)) (a1 : (List TPrefix)) : evalBody (Book_Same_api_Prefix.E) fuel Tryz.f41 Book_Same_api_Prefix.C [(.sl tyPrefix), (.sl tyPrefix)] [.pure tyB] (a0, a1, ()) =
    Book_Same_api_Prefix.b a0 a1 (fun t => loopAt (Book_Same_api_Prefix.E) fuel 4 Book_Same_api_Prefix.C (endK (Book_Same_api_Prefix.E) [.pure tyB] Tryz.f41) fuel (Book_Same_api_Prefix.mk0 a0 a1 t)) := by kernel_rfl
theorem Book_Same_api_Prefix.ev (fuel : Nat) (a0 : (List TPrefix)) (a1 : (List TPrefix)) : evalBody (Book_Same_api_Prefix.E) fuel Tryz.f41 Book_Same_api_Prefix.C [(.sl tyPrefix), (.sl tyPrefix)] [.pure tyB] (a0, a1, ()) = Book_Same_api_Prefix.f fuel a0 a1 :=
  (Book_Same_api_Prefix.b_ev fuel a0 a1).trans (congrArg (Book_Same_api_Prefix.b a0 a1) (funext fun t => Book_Same_api_Prefix.l0_ev fuel a0 a1 fuel t))
noncomputable def Book_Same_uint32.E : Env := envOf Tryz.prog (pick []) (pick []) (pick [(4, [(0, none), (1, none), (5, none)])])
noncomputable def Book_Same_uint32.C : Code := Tryz.f40.body.getD .skip
noncomputable def Book_Same_uint32.mk0 (a0 : (List Int)) (a1 : (List Int)) (s : Int) : St := { tmps := slots 26 0 [(0, (.one (.pure (.sl tyW) a0))), (1, (.one (.pure (.sl tyW) a1))), (5, (.one (.pure tyI s)))], st := [], next := 0 }
theorem Book_Same_uint32.b0_ev (fuel : Nat) (k0 : St → Option (Bool × Unit)) (a0 : (List Int)) (a1 : (List Int)) (s : Int) :
    bodyAt (Book_Same_uint32.E) fuel 4 Book_Same_uint32.C (endK (Book_Same_uint32.E) [.pure tyB] Tryz.f40) k0 (Book_Same_uint32.mk0 a0 a1 s) =
    Book_Same_uint32.b0 a0 a1 (fun t => k0 (Book_Same_uint32.mk0 a0 a1 t)) s := by kernel_rfl
theorem Book_Same_uint32.l0_ev (fuel : Nat) (a0 : (List Int)) (a1 : (List Int)) (n : Nat) (s : Int) :
    loopAt (Book_Same_uint32.E) fuel 4 Book_Same_uint32.C (endK (Book_Same_uint32.E) [.pure tyB] Tryz.f40) n (Book_Same_uint32.mk0 a0 a1 s) = Book_Same_uint32.l0 fuel a0 a1 n s :=
  loop_iter (fun k0 s => (Book_Same_uint32.b0_ev fuel k0 a0 a1 s)) n s
theorem Book_Same_uint32.b_ev (fuel : Nat) (a0 : (List Int)) (a1 : (List Int)) : evalBody (Book_Same_uint32.E) fuel Tryz.f40 Book_Same_uint32.C [(.sl tyW), (.sl tyW)] [.pure tyB] (a0, a1, ()) =
    Book_Same_uint32.b a0 a1 (fun t => loopAt (Book_Same_uint32.E) fuel 4 Book_Same_uint32.C (endK (Book_Same_uint32.E) [.pure tyB] Tryz.f40) fuel (Book_Same_uint32.mk0 a0 a1 t)) := by kernel_rfl
theorem Book_Same_uint32.ev (fuel : Nat) (a0 : (List Int)) (a1 : (List Int)) : evalBody (Book_Same_uint32.E) fuel Tryz.f40 Book_Same_uint32.C [(.sl tyW), (.sl tyW)] [.pure tyB] (a0, a1, ()) = Book_Same_uint32.f fuel a0 a1 :=
  (Book_Same_uint32.b_ev fuel a0 a1).trans (congrArg (Book_Same_uint32.b a0 a1) (funext fun t => Book_Same_uint32.l0_ev fuel a0 a1 fuel t))
noncomputable def Book_Within.E : Env := envOf Tryz.prog (pick []) (pick []) (pick [])
noncomputable def Book_Within.C : Code := Tryz.f31.body.getD .skip
theorem Book_Within.b_ev (fuel : Nat) (a0 : Int) (a1 : Int) (a2 : Int) : evalBody (Book_Within.E) fuel Tryz.f31 Book_Within.C [tyI, tyI, tyI] [.pure tyI] (a0, a1, a2, ()) =
    Book_Within.b a0 a1 a2 := by kernel_rfl
theorem Book_Within.ev (fuel : Nat) (a0 : Int) (a1 : Int) (a2 : Int) : evalBody (Book_Within.E) fuel Tryz.f31 Book_Within.C [tyI, tyI, tyI] [.pure tyI] (a0, a1, a2, ()) = Book_Within.f fuel a0 a1 a2 :=
  (Book_Within.b_ev fuel a0 a1 a2)
noncomputable def Keep_Attrs.E (c0 : Z0) (c1 : Z1) : Env := envOf Tryz.prog (pick [(39, ⟨[(.sl tySeg), (.sl tySeg)], [.pure tyI], c0⟩), (40, ⟨[(.sl tyW), (.sl tyW)], [.pure tyB], c1⟩)]) (pick []) (pick [])
noncomputable def Keep_Attrs.C : Code := Tryz.f16.body.getD .skip
theorem Keep_Attrs.b_ev (c0 : Z0) (c1 : Z1) (fuel : Nat) (a0 : TAttrs) (a1 : TAttrs) : evalBody (Keep_Attrs.E c0 c1) fuel Tryz.f16 Keep_Attrs.C [tyAttrs, tyAttrs] [.pure tyB] (a0, a1, ()) =
    Keep_Attrs.b c0 c1 a0 a1 := by kernel_rfl
theorem Keep_Attrs.ev (c0 : Z0) (c1 : Z1) (fuel : Nat) (a0 : TAttrs) (a1 : TAttrs) : evalBody (Keep_Attrs.E c0 c1) fuel Tryz.f16 Keep_Attrs.C [tyAttrs, tyAttrs] [.pure tyB] (a0, a1, ()) = Keep_Attrs.f c0 c1 fuel a0 a1 :=
  (Keep_Attrs.b_ev c0 c1 fuel a0 a1)
noncomputable def Keep_Next.E : Env := envOf Tryz.prog (pick []) (pick []) (pick [])
noncomputable def Keep_Next.C : Code := Tryz.f32.body.getD .skip
theorem Keep_Next.b_ev (fuel : Nat) (a0 : Int) : evalBody (Keep_Next.E) fuel Tryz.f32 Keep_Next.C [tyW] [.pure tyW] (a0, ()) =
    Keep_Next.b a0 := by kernel_rfl
theorem Keep_Next.ev (fuel : Nat) (a0 : Int) : evalBody (Keep_Next.E) fuel Tryz.f32 Keep_Next.C [tyW] [.pure tyW] (a0, ()) = Keep_Next.f fuel a0 :=
  (Keep_Next.b_ev fuel a0)
noncomputable def Keep_Prefix.E (c0 : Z2) (c1 : Z3) : Env := envOf Tryz.prog (pick [(31, ⟨[tyI, tyI, tyI], [.pure tyI], c0⟩), (57, ⟨[tyW, tyI], [.pure tyPrefix], c1⟩)]) (pick []) (pick [])
noncomputable def Keep_Prefix.C : Code := Tryz.f30.body.getD .skip
theorem Keep_Prefix.b_ev (c0 : Z2) (c1 : Z3) (fuel : Nat) (a0 : Int) (a1 : Int) : evalBody (Keep_Prefix.E c0 c1) fuel Tryz.f30 Keep_Prefix.C [tyW, tyI] [.pure tyPrefix] (a0, a1, ()) =
    Keep_Prefix.b c0 c1 a0 a1 := by kernel_rfl
theorem Keep_Prefix.ev (c0 : Z2) (c1 : Z3) (fuel : Nat) (a0 : Int) (a1 : Int) : evalBody (Keep_Prefix.E c0 c1) fuel Tryz.f30 Keep_Prefix.C [tyW, tyI] [.pure tyPrefix] (a0, a1, ()) = Keep_Prefix.f c0 c1 fuel a0 a1 :=
  (Keep_Prefix.b_ev c0 c1 fuel a0 a1)
noncomputable def Keep_Short.E : Env := envOf Tryz.prog (pick []) (pick []) (pick [(5, [(1, none), (2, none), (3, some tySeg), (4, none)])])
noncomputable def Keep_Short.C : Code := Tryz.f21.body.getD .skip
noncomputable def Keep_Short.mk0 (a0 : TAttrs) (s : Z5) : St := { tmps := slots 49 0 [(1, (.one (.ref 0 0 0 0))), (2, (.one (.ref 1 0 0 0))), (3, (.one (.own 2))), (4, (.one (.pure tyI s.1)))], st := [(0, (.cells [(.pure tyI s.2.1), (.pure (.sl tySeg) s.2.2.1), (.pure tyW s.2.2.2.1), (.pure tyB s.2.2.2.2.1), (.pure tyW s.2.2.2.2.2.1), (.pure tyB s.2.2.2.2.2.2.1), (.pure tyW s.2.2.2.2.2.2.2.1), (.pure tyB s.2.2.2.2.2.2.2.2.1), (.pure (.sl tyW) s.2.2.2.2.2.2.2.2.2.1)])), (1, (.cells [(.pure tyI s.2.2.2.2.2.2.2.2.2.2.1), .nil, (.pure tyW s.2.2.2.2.2.2.2.2.2.2.2.1), (.pure tyB s.2.2.2.2.2.2.2.2.2.2.2.2.1), (.pure tyW s.2.2.2.2.2.2.2.2.2.2.2.2.2.1), (.pure tyB s.2.2.2.2.2.2.2.2.2.2.2.2.2.2.1), (.pure tyW s.2.2.2.2.2.2.2.2.2.2.2.2.2.2.2.1), (.pure tyB s.2.2.2.2.2.2.2.2.2.2.2.2.2.2.2.2.1), .nil])), (2, (.row tySeg s.2.2.2.2.2.2.2.2.2.2.2.2.2.2.2.2.2))], next := 3 }
theorem Keep_Short.b0_ev (fuel : Nat) (k0 : St → Option (TAttrs × Unit)) (a0 : TAttrs) (s : Z5) :
    bodyAt (Keep_Short.E) fuel 5 Keep_Short.C (endK (Keep_Short.E) [.pure tyAttrs] Tryz.f21) k0 (Keep_Short.mk0 a0 s) =
    Keep_Short.b0 a0 (fun t => k0 (Keep_Short.mk0 a0 t)) s := by kernel_rfl
theorem Keep_Short.l0_ev (fuel : Nat) (a0 : TAttrs) (n : Nat) (s : Z5) :
    loopAt (Keep_Short.E) fuel 5 Keep_Short.C (endK (Keep_Short.E) [.pure tyAttrs] Tryz.f21) n (Keep_Short.mk0 a0 s) = Keep_Short.l0 fuel a0 n s :=
  loop_iter (fun k0 s => (Keep_Short.b0_ev fuel k0 a0 s)) n s
theorem Keep_Short.b_ev (fuel : Nat) (a0 : TAttrs) : evalBody (Keep_Short.E) fuel Tryz.f21 Keep_Short.C [tyAttrs] [.pure tyAttrs] (a0, ()) =
    Keep_Short.b a0 (fun t => loopAt (Keep_Short.E) fuel 5 Keep_Short.C (endK (Keep_Short.E) [.pure tyAttrs] Tryz.f21) fuel (Keep_Short.mk0 a0 t)) := by kernel_rfl
theorem Keep_Short.ev (fuel : Nat) (a0 : TAttrs) : evalBody (Keep_Short.E) fuel Tryz.f21 Keep_Short.C [tyAttrs] [.pure tyAttrs] (a0, ()) = Keep_Short.f fuel a0 :=
  (Keep_Short.b_ev fuel a0).trans (congrArg (Keep_Short.b a0) (funext fun t => Keep_Short.l0_ev fuel a0 fuel t))
noncomputable def Keep_Tame.E (c0 : Z2) (c1 : Int × Unit → Option (Int × Unit)) (c2 : Z6) : Env := envOf Tryz.prog (pick [(31, ⟨[tyI, tyI, tyI], [.pure tyI], c0⟩), (32, ⟨[tyW], [.pure tyW], c1⟩)]) (pick [(33, extBy ⟨[.give tyW, .pure tyW], [.fresh tyW], c2⟩)]) (pick [(8, [(2, none), (4, none), (5, none), (6, none), (7, none)]), (13, [(2, none), (4, none), (5, none), (8, none), (900005, some tyW), (900005, some tyW)])])
noncomputable def Keep_Tame.C : Code := Tryz.f10.body.getD .skip
noncomputable def Keep_Tame.mk0 (a0 : TAttrs) (a1 : Int) (s : Z10) : St := { tmps := slots 99 0 [(2, (.one (.ref 0 0 0 0))), (4, (.one (.ref 1 0 0 0))), (5, (.one (.ref 2 0 0 0))), (6, (.one (.ref 3 0 0 0))), (7, (.one (.pure tyI s.1)))], st := [(0, (.cells [(.pure tyI s.2.1), (.pure (.sl tySeg) s.2.2.1), (.pure tyW s.2.2.2.1), (.pure tyB s.2.2.2.2.1), (.pure tyW s.2.2.2.2.2.1), (.pure tyB s.2.2.2.2.2.2.1), (.pure tyW s.2.2.2.2.2.2.2.1), (.pure tyB s.2.2.2.2.2.2.2.2.1), (.pure (.sl tyW) s.2.2.2.2.2.2.2.2.2.1)])), (1, (.cells [(.pure tyI s.2.2.2.2.2.2.2.2.2.2.1), .nil, (.pure tyW s.2.2.2.2.2.2.2.2.2.2.2.1), (.pure tyB s.2.2.2.2.2.2.2.2.2.2.2.2.1), (.pure tyW s.2.2.2.2.2.2.2.2.2.2.2.2.2.1), (.pure tyB s.2.2.2.2.2.2.2.2.2.2.2.2.2.2.1), (.pure tyW s.2.2.2.2.2.2.2.2.2.2.2.2.2.2.2.1), (.pure tyB s.2.2.2.2.2.2.2.2.2.2.2.2.2.2.2.2.1), .nil])), (2, (.cells [(.pure tyI s.2.2.2.2.2.2.2.2.2.2.2.2.2.2.2.2.2.1), .nil, (.pure tyW s.2.2.2.2.2.2.2.2.2.2.2.2.2.2.2.2.2.2.1), (.pure tyB s.2.2.2.2.2.2.2.2.2.2.2.2.2.2.2.2.2.2.2.1), (.pure tyW s.2.2.2.2.2.2.2.2.2.2.2.2.2.2.2.2.2.2.2.2.1), (.pure tyB s.2.2.2.2.2.2.2.2.2.2.2.2.2.2.2.2.2.2.2.2.2.1), (.pure tyW s.2.2.2.2.2.2.2.2.2.2.2.2.2.2.2.2.2.2.2.2.2.2.1), (.pure tyB s.2.2.2.2.2.2.2.2.2.2.2.2.2.2.2.2.2.2.2.2.2.2.2.1), .nil])), (3, (.cells [(.pure tyI s.2.2.2.2.2.2.2.2.2.2.2.2.2.2.2.2.2.2.2.2.2.2.2.2.1), (.own 4)])), (4, (.row tyW s.2.2.2.2.2.2.2.2.2.2.2.2.2.2.2.2.2.2.2.2.2.2.2.2.2))], next := 5 }
noncomputable def Keep_Tame.mk1 (a0 : TAttrs) (a1 : Int) (x0_1 : Int) (x0_2 : (List TSeg)) (x0_3 : Int) (x0_4 : Bool) (x0_5 : Int) (x0_6 : Bool) (x0_7 : Int) (x0_8 : Bool) (x0_9 : (List Int)) (x0_10 : Int) (x0_11 : Int) (x0_12 : Bool) (x0_13 : Int) (x0_14 : Bool) (x0_15 : Int) (x0_16 : Bool) (x0_17 : Int) (x0_18 : Int) (x0_19 : Bool) (x0_20 : Int) (x0_21 : Bool) (x0_22 : Int) (x0_23 : Bool) (s : (Int × (List TSeg) × (List Int))) : St := { tmps := slots 99 0 [(2, (.one (.ref 0 0 0 0))), (4, (.one (.ref 1 0 0 0))), (5, (.one (.ref 2 0 0 0))), (8, (.one (.pure tyI s.1)))], st := [(0, (.cells [(.pure tyI x0_1), (.pure (.sl tySeg) x0_2), (.pure tyW x0_3), (.pure tyB x0_4), (.pure tyW x0_5), (.pure tyB x0_6), (.pure tyW x0_7), (.pure tyB x0_8), (.pure (.sl tyW) x0_9)])), (1, (.cells [(.pure tyI x0_10), .nil, (.pure tyW x0_11), (.pure tyB x0_12), (.pure tyW x0_13), (.pure tyB x0_14), (.pure tyW x0_15), (.pure tyB x0_16), .nil])), (2, (.cells [(.pure tyI x0_17), (.own 3), (.pure tyW x0_18), (.pure tyB x0_19), (.pure tyW x0_20), (.pure tyB x0_21), (.pure tyW x0_22), (.pure tyB x0_23), (.own 4)])), (3, (.row tySeg s.2.1)), (4, (.row tyW s.2.2))], next := 5 }
theorem Keep_Tame.b1_ev (c0 : Z2) (c1 : Int × Unit → Option (Int × Unit)) (c2 : Z6) (fuel : Nat) (k1 : St → Option (TAttrs × Unit)) (a0 : TAttrs) (a1 : Int) (x0_1 : Int) (x0_2 : (List TSeg)) (x0_3 : Int) (x0_4 : Bool) (x0_5 : Int) (x0_6 : Bool) (x0_7 : Int) (x0_8 : Bool) (x0_9 : (List Int)) (x0_10 : Int) (x0_11 : Int) (x0_12 : Bool) (x0_13 : Int) (x0_14 : Bool) (x0_15 : Int) (x0_16 : Bool) (x0_17 : Int) (x0_18 : Int) (x0_19 : Bool) (x0_20 : Int) (x0_21 : Bool) (x0_22 : Int) (x0_23 : Bool) (s : (Int × (List TSeg) × (List Int))) :
    bodyAt (Keep_Tame.E c0 c1 c2) fuel 13 Keep_Tame.C (endK (Keep_Tame.E c0 c1 c2) [.pure tyAttrs] Tryz.f10) k1 (Keep_Tame.mk1 a0 a1 x0_1 x0_2 x0_3 x0_4 x0_5 x0_6 x0_7 x0_8 x0_9 x0_10 x0_11 x0_12 x0_13 x0_14 x0_15 x0_16 x0_17 x0_18 x0_19 x0_20 x0_21 x0_22 x0_23 s) =
    Keep_Tame.b1 c0 c1 c2 a0 a1 x0_1 x0_2 x0_3 x0_4 x0_5 x0_6 x0_7 x0_8 x0_9 x0_10 x0_11 x0_12 x0_13 x0_14 x0_15 x0_16 x0_17 x0_18 x0_19 x0_20 x0_21 x0_22 x0_23 (fun t => k1 (Keep_Tame.mk1 a0 a1 x0_1 x0_2 x0_3 x0_4 x0_5 x0_6 x0_7 x0_8 x0_9 x0_10 x0_11 x0_12 x0_13 x0_14 x0_15 x0_16 x0_17 x0_18 x0_19 x0_20 x0_21 x0_22 x0_23 t)) s := by kernel_rfl
theorem Keep_Tame.l1_ev (c0 : Z2) (c1 : Int × Unit → Option (Int × Unit)) (c2 : Z6) (fuel : Nat) (a0 : TAttrs) (a1 : Int) (x0_1 : Int) (x0_2 : (List TSeg)) (x0_3 : Int) (x0_4 : Bool) (x0_5 : Int) (x0_6 : Bool) (x0_7 : Int) (x0_8 : Bool) (x0_9 : (List Int)) (x0_10 : Int) (x0_11 : Int) (x0_12 : Bool) (x0_13 : Int) (x0_14 : Bool) (x0_15 : Int) (x0_16 : Bool) (x0_17 : Int) (x0_18 : Int) (x0_19 : Bool) (x0_20 : Int) (x0_21 : Bool) (x0_22 : Int) (x0_23 : Bool) (n : Nat) (s : (Int × (List TSeg) × (List Int))) :
    loopAt (Keep_Tame.E c0 c1 c2) fuel 13 Keep_Tame.C (endK (Keep_Tame.E c0 c1 c2) [.pure tyAttrs] Tryz.f10) n (Keep_Tame.mk1 a0 a1 x0_1 x0_2 x0_3 x0_4 x0_5 x0_6 x0_7 x0_8 x0_9 x0_10 x0_11 x0_12 x0_13 x0_14 x0_15 x0_16 x0_17 x0_18 x0_19 x0_20 x0_21 x0_22 x0_23 s) = Keep_Tame.l1 c0 c1 c2 fuel a0 a1 x0_1 x0_2 x0_3 x0_4 x0_5 x0_6 x0_7 x0_8 x0_9 x0_10 x0_11 x0_12 x0_13 x0_14 x0_15 x0_16 x0_17 x0_18 x0_19 x0_20 x0_21 x0_22 x0_23 n s :=
  loop_iter (fun k1 s => (Keep_Tame.b1_ev c0 c1 c2 fuel k1 a0 a1 x0_1 x0_2 x0_3 x0_4 x0_5 x0_6 x0_7 x0_8 x0_9 x0_10 x0_11 x0_12 x0_13 x0_14 x0_15 x0_16 x0_17 x0_18 x0_19 x0_20 x0_21 x0_22 x0_23 s)) n s
theorem Keep_Tame.b0_ev (c0 : Z2) (c1 : Int × Unit → Option (Int × Unit)) (c2 : Z6) (fuel : Nat) (k0 : St → Option (TAttrs × Unit)) (a0 : TAttrs) (a1 : Int) (s : Z10) :
    bodyAt (Keep_Tame.E c0 c1 c2) fuel 8 Keep_Tame.C (endK (Keep_Tame.E c0 c1 c2) [.pure tyAttrs] Tryz.f10) k0 (Keep_Tame.mk0 a0 a1 s) =
    Keep_Tame.b0 c0 c1 c2 a0 a1 (fun x0_1 x0_2 x0_3 x0_4 x0_5 x0_6 x0_7 x0_8 x0_9 x0_10 x0_11 x0_12 x0_13 x0_14 x0_15 x0_16 x0_17 x0_18 x0_19 x0_20 x0_21 x0_22 x0_23 t => loopAt (Keep_Tame.E c0 c1 c2) fuel 13 Keep_Tame.C (endK (Keep_Tame.E c0 c1 c2) [.pure tyAttrs] Tryz.f10) fuel (Keep_Tame.mk1 a0 a1 x0_1 x0_2 x0_3 x0_4 x0_5 x0_6 x0_7 x0_8 x0_9 x0_10 x0_11 x0_12 x0_13 x0_14 x0_15 x0_16 x0_17 x0_18 x0_19 x0_20 x0_21 x0_22 x0_23 t)) (fun t => k0 (Keep_Tame.mk0 a0 a1 t)) s := by kernel_rfl
theorem Keep_Tame.l0_ev (c0 : Z2) (c1 : Int × Unit → Option (Int × Unit)) (c2 : Z6) (fuel : Nat) (a0 : TAttrs) (a1 : Int) (n : Nat) (s : Z10) :
    loopAt (Keep_Tame.E c0 c1 c2) fuel 8 Keep_Tame.C (endK (Keep_Tame.E c0 c1 c2) [.pure tyAttrs] Tryz.f10) n (Keep_Tame.mk0 a0 a1 s) = Keep_Tame.l0 c0 c1 c2 fuel a0 a1 n s :=
  loop_iter (fun k0 s => (Keep_Tame.b0_ev c0 c1 c2 fuel k0 a0 a1 s).trans (congrFun (congrFun (congrArg (Keep_Tame.b0 c0 c1 c2 a0 a1) (funext fun x0_1 => funext fun x0_2 => funext fun x0_3 => funext fun x0_4 => funext fun x0_5 => funext fun x0_6 => funext fun x0_7 => funext fun x0_8 => funext fun x0_9 => funext fun x0_10 => funext fun x0_11 => funext fun x0_12 => funext fun x0_13 => funext fun x0_14 => funext fun x0_15 => funext fun x0_16 => funext fun x0_17 => funext fun x0_18 => funext fun x0_19 => funext fun x0_20 => funext fun x0_21 => funext fun x0_22 => funext fun x0_23 => funext fun t => Keep_Tame.l1_ev c0 c1 c2 fuel a0 a1 x0_1 x0_2 x0_3 x0_4 x0_5 x0_6 x0_7 x0_8 x0_9 x0_10 x0_11 x0_12 x0_13 x0_14 x0_15 x0_16 x0_17 x0_18 x0_19 x0_20 x0_21 x0_22 x0_23 fuel t)) (fun t => k0 (Keep_Tame.mk0 a0 a1 t))) s)) n s
theorem Keep_Tame.b_ev (c0 : Z2) (c1 : Int × Unit → Option (Int × Unit)) (c2 : Z6) (fuel : Nat) (a0 : TAttrs) (a1 : Int) : evalBody (Keep_Tame.E c0 c1 c2) fuel Tryz.f10 Keep_Tame.C [tyAttrs, tyW] [.pure tyAttrs] (a0, a1, ()) =
    Keep_Tame.b c0 c1 c2 a0 a1 (fun t => loopAt (Keep_Tame.E c0 c1 c2) fuel 8 Keep_Tame.C (endK (Keep_Tame.E c0 c1 c2) [.pure tyAttrs] Tryz.f10) fuel (Keep_Tame.mk0 a0 a1 t)) := by kernel_rfl
theorem Keep_Tame.ev (c0 : Z2) (c1 : Int × Unit → Option (Int × Unit)) (c2 : Z6) (fuel : Nat) (a0 : TAttrs) (a1 : Int) : evalBody (Keep_Tame.E c0 c1 c2) fuel Tryz.f10 Keep_Tame.C [tyAttrs, tyW] [.pure tyAttrs] (a0, a1, ()) = Keep_Tame.f c0 c1 c2 fuel a0 a1 :=
  (Keep_Tame.b_ev c0 c1 c2 fuel a0 a1).trans (congrArg (Keep_Tame.b c0 c1 c2 a0 a1) (funext fun t => Keep_Tame.l0_ev c0 c1 c2 fuel a0 a1 fuel t))
noncomputable def L22_AdjoutClear.E (c0 : Z11) (c1 : Z12) (c2 : Z13) (c3 : Z14) (c4 : Z15) (c5 : Z16) (c6 : Z17) (c7 : Z18) (c8 : Z18) (c9 : Z19) (c10 : Z20) (c11 : Unit → Option (Bool × Unit)) : Env := envOf Tryz.prog (pick [(9, ⟨[tyL22_Ask], [.pure tyPrefix], c2⟩), (10, ⟨[tyAttrs, tyW], [.pure tyAttrs], c3⟩), (13, ⟨[(.box tyadjout_Out)], [.fresh tyPrefix], c7⟩), (14, ⟨[(.box tyadjout_Out)], [.fresh tyPrefix], c8⟩), (16, ⟨[tyAttrs, tyAttrs], [.pure tyB], c10⟩), (17, ⟨[], [.pure tyB], c11⟩)]) (pick [(6, extBy ⟨[], [.deep (.box dtOut)], c0⟩), (7, extBy ⟨[.deep (.box dtOut), .give tyL22_one, .pure tyL22_Ask], [.fresh tyL22_one, .pure tyB], c1⟩), (8, extBy ⟨[.deep (.box dtOut), .pure tyPrefix, .pure tyAttrs], [.pure tyI], c4⟩), (11, extBy ⟨[.deep (.box dtOut)], [.fresh tyadjout_Change], c5⟩), (12, extBy ⟨[.deep (.box dtOut)], [], c6⟩), (15, extBy ⟨[.deep (.box dtOut), .pure tyPrefix], [.pure tyB], c9⟩)]) (pick [(5, [(0, none), (1, none), (5, none), (6, none), (7, none)]), (20, [(1, none), (5, none), (6, none), (11, none)]), (33, [(13, none), (14, none), (15, none)])])
noncomputable def L22_AdjoutClear.C : Code := Tryz.f3.body.getD .skip
noncomputable def L22_AdjoutClear.mk0 (a0 : (List TL22_Ask)) (a1 : (List TL22_Ask)) (s : (Int × DOut × DOut)) : St := { tmps := slots 192 0 [(0, (.one (.pure (.sl tyL22_Ask) a0))), (1, (.one (.pure (.sl tyL22_Ask) a1))), (5, (.one (.ref 0 0 0 0))), (6, (.one (.ref 1 0 0 0))), (7, (.one (.pure tyI s.1)))], st := [(0, (.deep (.box dtOut) s.2.1)), (1, (.deep (.box dtOut) s.2.2))], next := 2 }
noncomputable def L22_AdjoutClear.mk1 (a0 : (List TL22_Ask)) (a1 : (List TL22_Ask)) (s : (Int × DOut × DOut)) : St := { tmps := slots 192 0 [(1, (.one (.pure (.sl tyL22_Ask) a1))), (5, (.one (.ref 0 0 0 0))), (6, (.one (.ref 1 0 0 0))), (11, (.one (.pure tyI s.1)))], st := [(0, (.deep (.box dtOut) s.2.1)), (1, (.deep (.box dtOut) s.2.2))], next := 2 }
noncomputable def L22_AdjoutClear.mk2 (a0 : (List TL22_Ask)) (a1 : (List TL22_Ask)) (s : Z22) : St := { tmps := slots 192 0 [(13, (.one (.own 0))), (14, (.one (.own 1))), (15, (.one (.pure tyI s.1)))], st := [(0, (.row tyadjout_Change s.2.1)), (1, (.row tyadjout_Change s.2.2))], next := 2 }
theorem L22_AdjoutClear.b2_ev (c0 : Z11) (c1 : Z12) (c2 : Z13) (c3 : Z14) (c4 : Z15) (c5 : Z16) (c6 : Z17) (c7 : Z18) (c8 : Z18) (c9 : Z19) (c10 : Z20) (c11 : Unit → Option (Bool × Unit)) (fuel : Nat) (k2 : St → Option (Bool × Unit)) (a0 : (List TL22_Ask)) (a1 : (List TL22_Ask)) (s : Z22) :
    bodyAt (L22_AdjoutClear.E c0 c1 c2 c3 c4 c5 c6 c7 c8 c9 c10 c11) fuel 33 L22_AdjoutClear.C (endK (L22_AdjoutClear.E c0 c1 c2 c3 c4 c5 c6 c7 c8 c9 c10 c11) [.pure tyB] Tryz.f3) k2 (L22_AdjoutClear.mk2 a0 a1 s) =
    L22_AdjoutClear.b2 c0 c1 c2 c3 c4 c5 c6 c7 c8 c9 c10 c11 a0 a1 (fun t => k2 (L22_AdjoutClear.mk2 a0 a1 t)) s := by kernel_rfl
theorem L22_AdjoutClear.l2_ev (c0 : Z11) (c1 : Z12) (c2 : Z13) (c3 : Z14) (c4 : Z15) (c5 : Z16) (c6 : Z17) (c7 : Z18) (c8 : Z18) (c9 : Z19) (c10 : Z20) (c11 : Unit → Option (Bool × Unit)) (fuel : Nat) (a0 : (List TL22_Ask)) (a1 : (List TL22_Ask)) (n : Nat) (s : Z22) :
    loopAt (L22_AdjoutClear.E c0 c1 c2 c3 c4 c5 c6 c7 c8 c9 c10 c11) fuel 33 L22_AdjoutClear.C (endK (L22_AdjoutClear.E c0 c1 c2 c3 c4 c5 c6 c7 c8 c9 c10 c11) [.pure tyB] Tryz.f3) n (L22_AdjoutClear.mk2 a0 a1 s) = L22_AdjoutClear.l2 c0 c1 c2 c3 c4 c5 c6 c7 c8 c9 c10 c11 fuel a0 a1 n s :=
  loop_iter (fun k2 s => (L22_AdjoutClear.b2_ev c0 c1 c2 c3 c4 c5 c6 c7 c8 c9 c10 c11 fuel k2 a0 a1 s)) n s
theorem L22_AdjoutClear.b1_ev (c0 : Z11) (c1 : Z12) (c2 : Z13) (c3 : Z14) (c4 : Z15) (c5 : Z16) (c6 : Z17) (c7 : Z18) (c8 : Z18) (c9 : Z19) (c10 : Z20) (c11 : Unit → Option (Bool × Unit)) (fuel : Nat) (k1 : St → Option (Bool × Unit)) (a0 : (List TL22_Ask)) (a1 : (List TL22_Ask)) (s : (Int × DOut × DOut)) :
    bodyAt (L22_AdjoutClear.E c0 c1 c2 c3 c4 c5 c6 c7 c8 c9 c10 c11) fuel 20 L22_AdjoutClear.C (endK (L22_AdjoutClear.E c0 c1 c2 c3 c4 c5 c6 c7 c8 c9 c10 c11) [.pure tyB] Tryz.f3) k1 (L22_AdjoutClear.mk1 a0 a1 s) =
    L22_AdjoutClear.b1 c0 c1 c2 c3 c4 c5 c6 c7 c8 c9 c10 c11 a0 a1 (fun t => loopAt (L22_AdjoutClear.E c0 c1 c2 c3 c4 c5 c6 c7 c8 c9 c10 c11) fuel 33 L22_AdjoutClear.C (endK (L22_AdjoutClear.E c0 c1 c2 c3 c4 c5 c6 c7 c8 c9 c10 c11) [.pure tyB] Tryz.f3) fuel (L22_AdjoutClear.mk2 a0 a1 t)) (fun t => k1 (L22_AdjoutClear.mk1 a0 a1 t)) s := by kernel_rfl
theorem L22_AdjoutClear.l1_ev (c0 : Z11) (c1 : Z12) (c2 : Z13) (c3 : Z14) (c4 : Z15) (c5 : Z16) (c6 : Z17) (c7 : Z18) (c8 : Z18) (c9 : Z19) (c10 : Z20) (c11 : Unit → Option (Bool × Unit)) (fuel : Nat) (a0 : (List TL22_Ask)) (a1 : (List TL22_Ask)) (n : Nat) (s : (Int × DOut × DOut)) :
    loopAt (L22_AdjoutClear.E c0 c1 c2 c3 c4 c5 c6 c7 c8 c9 c10 c11) fuel 20 L22_AdjoutClear.C (endK (L22_AdjoutClear.E c0 c1 c2 c3 c4 c5 c6 c7 c8 c9 c10 c11) [.pure tyB] Tryz.f3) n (L22_AdjoutClear.mk1 a0 a1 s) = L22_AdjoutClear.l1 c0 c1 c2 c3 c4 c5 c6 c7 c8 c9 c10 c11 fuel a0 a1 n s :=
  loop_iter (fun k1 s => (L22_AdjoutClear.b1_ev c0 c1 c2 c3 c4 c5 c6 c7 c8 c9 c10 c11 fuel k1 a0 a1 s).trans (congrFun (congrFun (congrArg (L22_AdjoutClear.b1 c0 c1 c2 c3 c4 c5 c6 c7 c8 c9 c10 c11 a0 a1) (funext fun t => L22_AdjoutClear.l2_ev c0 c1 c2 c3 c4 c5 c6 c7 c8 c9 c10 c11 fuel a0 a1 fuel t)) (fun t => k1 (L22_AdjoutClear.mk1 a0 a1 t))) s)) n s
theorem L22_AdjoutClear.b0_ev (c0 : Z11) (c1 : Z12) (c2 : Z13) (c3 : Z14) (c4 : Z15) (c5 : Z16) (c6 : Z17) (c7 : Z18) (c8 : Z18) (c9 : Z19) (c10 : Z20) (c11 : Unit → Option (Bool × Unit)) (fuel : Nat) (k0 : St → Option (Bool × Unit)) (a0 : (List TL22_Ask)) (a1 : (List TL22_Ask)) (s : (Int × DOut × DOut)) :
    bodyAt (L22_AdjoutClear.E c0 c1 c2 c3 c4 c5 c6 c7 c8 c9 c10 c11) fuel 5 L22_AdjoutClear.C (endK (L22_AdjoutClear.E c0 c1 c2 c3 c4 c5 c6 c7 c8 c9 c10 c11) [.pure tyB] Tryz.f3) k0 (L22_AdjoutClear.mk0 a0 a1 s) =
    L22_AdjoutClear.b0 c0 c1 c2 c3 c4 c5 c6 c7 c8 c9 c10 c11 a0 a1 (fun t => loopAt (L22_AdjoutClear.E c0 c1 c2 c3 c4 c5 c6 c7 c8 c9 c10 c11) fuel 20 L22_AdjoutClear.C (endK (L22_AdjoutClear.E c0 c1 c2 c3 c4 c5 c6 c7 c8 c9 c10 c11) [.pure tyB] Tryz.f3) fuel (L22_AdjoutClear.mk1 a0 a1 t)) (fun t => k0 (L22_AdjoutClear.mk0 a0 a1 t)) s := by kernel_rfl
theorem L22_AdjoutClear.l0_ev (c0 : Z11) (c1 : Z12) (c2 : Z13) (c3 : Z14) (c4 : Z15) (c5 : Z16) (c6 : Z17) (c7 : Z18) (c8 : Z18) (c9 : Z19) (c10 : Z20) (c11 : Unit → Option (Bool × Unit)) (fuel : Nat) (a0 : (List TL22_Ask)) (a1 : (List TL22_Ask)) (n : Nat) (s : (Int × DOut × DOut)) :
    loopAt (L22_AdjoutClear.E c0 c1 c2 c3 c4 c5 c6 c7 c8 c9 c10 c11) fuel 5 L22_AdjoutClear.C (endK (L22_AdjoutClear.E c0 c1 c2 c3 c4 c5 c6 c7 c8 c9 c10 c11) [.pure tyB] Tryz.f3) n (L22_AdjoutClear.mk0 a0 a1 s) = L22_AdjoutClear.l0 c0 c1 c2 c3 c4 c5 c6 c7 c8 c9 c10 c11 fuel a0 a1 n s :=
  loop_iter (fun k0 s => (L22_AdjoutClear.b0_ev c0 c1 c2 c3 c4 c5 c6 c7 c8 c9 c10 c11 fuel k0 a0 a1 s).trans (congrFun (congrFun (congrArg (L22_AdjoutClear.b0 c0 c1 c2 c3 c4 c5 c6 c7 c8 c9 c10 c11 a0 a1) (funext fun t => L22_AdjoutClear.l1_ev c0 c1 c2 c3 c4 c5 c6 c7 c8 c9 c10 c11 fuel a0 a1 fuel t)) (fun t => k0 (L22_AdjoutClear.mk0 a0 a1 t))) s)) n s
theorem L22_AdjoutClear.b_ev (c0 : Z11) (c1 : Z12) (c2 : Z13) (c3 : Z14) (c4 : Z15) (c5 : Z16) (c6 : Z17) (c7 : Z18) (c8 : Z18) (c9 : Z19) (c10 : Z20) (c11 : Unit → Option (Bool × Unit)) (fuel : Nat) (a0 : (List TL22_Ask)) (a1 : (List TL22_Ask)) : evalBody (L22_AdjoutClear.E c0 c1 c2 c3 c4 c5 c6 c7 c8 c9 c10 c11) fuel Tryz.f3 L22_AdjoutClear.C [(.sl tyL22_Ask), (.sl tyL22_Ask)] [.pure tyB] (a0, a1, ()) =
    L22_AdjoutClear.b c0 c1 c2 c3 c4 c5 c6 c7 c8 c9 c10 c11 a0 a1 (fun t => loopAt (L22_AdjoutClear.E c0 c1 c2 c3 c4 c5 c6 c7 c8 c9 c10 c11) fuel 5 L22_AdjoutClear.C (endK (L22_AdjoutClear.E c0 c1 c2 c3 c4 c5 c6 c7 c8 c9 c10 c11) [.pure tyB] Tryz.f3) fuel (L22_AdjoutClear.mk0 a0 a1 t)) := by kernel_rfl
theorem L22_AdjoutClear.ev (c0 : Z11) (c1 : Z12) (c2 : Z13) (c3 : Z14) (c4 : Z15) (c5 : Z16) (c6 : Z17) (c7 : Z18) (c8 : Z18) (c9 : Z19) (c10 : Z20) (c11 : Unit → Option (Bool × Unit)) (fuel : Nat) (a0 : (List TL22_Ask)) (a1 : (List TL22_Ask)) : evalBody (L22_AdjoutClear.E c0 c1 c2 c3 c4 c5 c6 c7 c8 c9 c10 c11) fuel Tryz.f3 L22_AdjoutClear.C [(.sl tyL22_Ask), (.sl tyL22_Ask)] [.pure tyB] (a0, a1, ()) = L22_AdjoutClear.f c0 c1 c2 c3 c4 c5 c6 c7 c8 c9 c10 c11 fuel a0 a1 :=
  (L22_AdjoutClear.b_ev c0 c1 c2 c3 c4 c5 c6 c7 c8 c9 c10 c11 fuel a0 a1).trans (congrArg (L22_AdjoutClear.b c0 c1 c2 c3 c4 c5 c6 c7 c8 c9 c10 c11 a0 a1) (funext fun t => L22_AdjoutClear.l0_ev c0 c1 c2 c3 c4 c5 c6 c7 c8 c9 c10 c11 fuel a0 a1 fuel t))
noncomputable def L22_AdjoutNumbers.E (c0 : Z11) (c1 : Z14) (c2 : Z12) (c3 : Z24) (c4 : Z25) (c5 : Z25) (c6 : Unit → Option (Bool × Unit)) : Env := envOf Tryz.prog (pick [(10, ⟨[tyAttrs, tyW], [.pure tyAttrs], c1⟩), (17, ⟨[], [.pure tyB], c6⟩)]) (pick [(6, extBy ⟨[], [.deep (.box dtOut)], c0⟩), (7, extBy ⟨[.deep (.box dtOut), .give tyL22_one, .pure tyL22_Ask], [.fresh tyL22_one, .pure tyB], c2⟩), (18, extBy ⟨[.deep (.box dtOut), .row tyL22_one], [.pure tyB], c3⟩), (19, extBy ⟨[.deep (.box dtOut), .pure tyPrefix], [.pure tyAttrs, .pure tyB], c4⟩), (20, extBy ⟨[.deep (.box dtOut), .pure tyPrefix], [.pure tyAttrs, .pure tyB], c5⟩)]) (pick [(10, [(1, none), (2, some tyL22_one), (5, none), (62, none), (63, none), (64, none)])])
noncomputable def L22_AdjoutNumbers.C : Code := Tryz.f4.body.getD .skip
noncomputable def L22_AdjoutNumbers.mk0 (s : Z27) : St := { tmps := slots 105 0 [(1, (.one (.ref 0 0 0 0))), (2, (.one (.own 1))), (5, (.one (.ref 2 0 0 0))), (62, (.one (.own 3))), (63, (.one (.pure tyI s.1))), (64, (.one (.pure tyI s.2.1)))], st := [(0, (.deep (.box dtOut) s.2.2.1)), (1, (.row tyL22_one s.2.2.2.1)), (2, (.cells [(.pure tyW s.2.2.2.2.1), (.pure tyI s.2.2.2.2.2.1)])), (3, (.row tyL22_Ask s.2.2.2.2.2.2))], next := 4 }
theorem L22_AdjoutNumbers.b0_ev (c0 : Z11) (c1 : Z14) (c2 : Z12) (c3 : Z24) (c4 : Z25) (c5 : Z25) (c6 : Unit → Option (Bool × Unit)) (fuel : Nat) (k0 : St → Option (Bool × Unit)) (s : Z27) :
    bodyAt (L22_AdjoutNumbers.E c0 c1 c2 c3 c4 c5 c6) fuel 10 L22_AdjoutNumbers.C (endK (L22_AdjoutNumbers.E c0 c1 c2 c3 c4 c5 c6) [.pure tyB] Tryz.f4) k0 (L22_AdjoutNumbers.mk0 s) =
    L22_AdjoutNumbers.b0 c0 c1 c2 c3 c4 c5 c6 (fun t => k0 (L22_AdjoutNumbers.mk0 t)) s := by kernel_rfl
theorem L22_AdjoutNumbers.l0_ev (c0 : Z11) (c1 : Z14) (c2 : Z12) (c3 : Z24) (c4 : Z25) (c5 : Z25) (c6 : Unit → Option (Bool × Unit)) (fuel : Nat) (n : Nat) (s : Z27) :
    loopAt (L22_AdjoutNumbers.E c0 c1 c2 c3 c4 c5 c6) fuel 10 L22_AdjoutNumbers.C (endK (L22_AdjoutNumbers.E c0 c1 c2 c3 c4 c5 c6) [.pure tyB] Tryz.f4) n (L22_AdjoutNumbers.mk0 s) = L22_AdjoutNumbers.l0 c0 c1 c2 c3 c4 c5 c6 fuel n s :=
  loop_iter (fun k0 s => (L22_AdjoutNumbers.b0_ev c0 c1 c2 c3 c4 c5 c6 fuel k0 s)) n s
theorem L22_AdjoutNumbers.b_ev (c0 : Z11) (c1 : Z14) (c2 : Z12) (c3 : Z24) (c4 : Z25) (c5 : Z25) (c6 : Unit → Option (Bool × Unit)) (fuel : Nat) : evalBody (L22_AdjoutNumbers.E c0 c1 c2 c3 c4 c5 c6) fuel Tryz.f4 L22_AdjoutNumbers.C [] [.pure tyB] (()) =
    L22_AdjoutNumbers.b c0 c1 c2 c3 c4 c5 c6 (fun t => loopAt (L22_AdjoutNumbers.E c0 c1 c2 c3 c4 c5 c6) fuel 10 L22_AdjoutNumbers.C (endK (L22_AdjoutNumbers.E c0 c1 c2 c3 c4 c5 c6) [.pure tyB] Tryz.f4) fuel (L22_AdjoutNumbers.mk0 t)) := by kernel_rfl
theorem L22_AdjoutNumbers.ev (c0 : Z11) (c1 : Z14) (c2 : Z12) (c3 : Z24) (c4 : Z25) (c5 : Z25) (c6 : Unit → Option (Bool × Unit)) (fuel : Nat) : evalBody (L22_AdjoutNumbers.E c0 c1 c2 c3 c4 c5 c6) fuel Tryz.f4 L22_AdjoutNumbers.C [] [.pure tyB] (()) = L22_AdjoutNumbers.f c0 c1 c2 c3 c4 c5 c6 fuel :=
  (L22_AdjoutNumbers.b_ev c0 c1 c2 c3 c4 c5 c6 fuel).trans (congrArg (L22_AdjoutNumbers.b c0 c1 c2 c3 c4 c5 c6) (funext fun t => L22_AdjoutNumbers.l0_ev c0 c1 c2 c3 c4 c5 c6 fuel fuel t))
noncomputable def L22_AdjoutPlays.E (c0 : Z11) (c1 : Z12) (c2 : Z24) (c3 : Unit → Option (Bool × Unit)) : Env := envOf Tryz.prog (pick [(17, ⟨[], [.pure tyB], c3⟩)]) (pick [(6, extBy ⟨[], [.deep (.box dtOut)], c0⟩), (7, extBy ⟨[.deep (.box dtOut), .give tyL22_one, .pure tyL22_Ask], [.fresh tyL22_one, .pure tyB], c1⟩), (18, extBy ⟨[.deep (.box dtOut), .row tyL22_one], [.pure tyB], c2⟩)]) (pick [(6, [(0, none), (3, none), (4, some tyL22_one), (5, none)])])
noncomputable def L22_AdjoutPlays.C : Code := Tryz.f5.body.getD .skip
noncomputable def L22_AdjoutPlays.mk0 (a0 : (List TL22_Ask)) (s : (Int × DOut × (List TL22_one))) : St := { tmps := slots 39 0 [(0, (.one (.pure (.sl tyL22_Ask) a0))), (3, (.one (.ref 0 0 0 0))), (4, (.one (.own 1))), (5, (.one (.pure tyI s.1)))], st := [(0, (.deep (.box dtOut) s.2.1)), (1, (.row tyL22_one s.2.2))], next := 2 }
theorem L22_AdjoutPlays.b0_ev (c0 : Z11) (c1 : Z12) (c2 : Z24) (c3 : Unit → Option (Bool × Unit)) (fuel : Nat) (k0 : St → Option (Bool × Unit)) (a0 : (List TL22_Ask)) (s : (Int × DOut × (List TL22_one))) :
    bodyAt (L22_AdjoutPlays.E c0 c1 c2 c3) fuel 6 L22_AdjoutPlays.C (endK (L22_AdjoutPlays.E c0 c1 c2 c3) [.pure tyB] Tryz.f5) k0 (L22_AdjoutPlays.mk0 a0 s) =
    L22_AdjoutPlays.b0 c0 c1 c2 c3 a0 (fun t => k0 (L22_AdjoutPlays.mk0 a0 t)) s := by kernel_rfl
theorem L22_AdjoutPlays.l0_ev (c0 : Z11) (c1 : Z12) (c2 : Z24) (c3 : Unit → Option (Bool × Unit)) (fuel : Nat) (a0 : (List TL22_Ask)) (n : Nat) (s : (Int × DOut × (List TL22_one))) :
    loopAt (L22_AdjoutPlays.E c0 c1 c2 c3) fuel 6 L22_AdjoutPlays.C (endK (L22_AdjoutPlays.E c0 c1 c2 c3) [.pure tyB] Tryz.f5) n (L22_AdjoutPlays.mk0 a0 s) = L22_AdjoutPlays.l0 c0 c1 c2 c3 fuel a0 n s :=
  loop_iter (fun k0 s => (L22_AdjoutPlays.b0_ev c0 c1 c2 c3 fuel k0 a0 s)) n s
theorem L22_AdjoutPlays.b_ev (c0 : Z11) (c1 : Z12) (c2 : Z24) (c3 : Unit → Option (Bool × Unit)) (fuel : Nat) (a0 : (List TL22_Ask)) : evalBody (L22_AdjoutPlays.E c0 c1 c2 c3) fuel Tryz.f5 L22_AdjoutPlays.C [(.sl tyL22_Ask)] [.pure tyB] (a0, ()) =
    L22_AdjoutPlays.b c0 c1 c2 c3 a0 (fun t => loopAt (L22_AdjoutPlays.E c0 c1 c2 c3) fuel 6 L22_AdjoutPlays.C (endK (L22_AdjoutPlays.E c0 c1 c2 c3) [.pure tyB] Tryz.f5) fuel (L22_AdjoutPlays.mk0 a0 t)) := by kernel_rfl
theorem L22_AdjoutPlays.ev (c0 : Z11) (c1 : Z12) (c2 : Z24) (c3 : Unit → Option (Bool × Unit)) (fuel : Nat) (a0 : (List TL22_Ask)) : evalBody (L22_AdjoutPlays.E c0 c1 c2 c3) fuel Tryz.f5 L22_AdjoutPlays.C [(.sl tyL22_Ask)] [.pure tyB] (a0, ()) = L22_AdjoutPlays.f c0 c1 c2 c3 fuel a0 :=
  (L22_AdjoutPlays.b_ev c0 c1 c2 c3 fuel a0).trans (congrArg (L22_AdjoutPlays.b c0 c1 c2 c3 a0) (funext fun t => L22_AdjoutPlays.l0_ev c0 c1 c2 c3 fuel a0 fuel t))
noncomputable def L22_alike.E (c0 : Z25) (c1 : Z25) (c2 : Z20) (c3 : Z29) (c4 : Z18) (c5 : Z30) (c6 : Z18) : Env := envOf Tryz.prog (pick [(16, ⟨[tyAttrs, tyAttrs], [.pure tyB], c2⟩), (26, ⟨[tyL22_one], [.pure tyB], c3⟩), (13, ⟨[(.box tyadjout_Out)], [.fresh tyPrefix], c4⟩), (41, ⟨[(.sl tyPrefix), (.sl tyPrefix)], [.pure tyB], c5⟩), (14, ⟨[(.box tyadjout_Out)], [.fresh tyPrefix], c6⟩)]) (pick [(20, extBy ⟨[.deep (.box dtOut), .pure tyPrefix], [.pure tyAttrs, .pure tyB], c0⟩), (19, extBy ⟨[.deep (.box dtOut), .pure tyPrefix], [.pure tyAttrs, .pure tyB], c1⟩)]) (pick [(3, [(0, none), (1, none), (5, some tyPrefix), (6, some tyPrefix), (7, none)])])
noncomputable def L22_alike.C : Code := Tryz.f18.body.getD .skip
noncomputable def L22_alike.mk0 (a0 : DOut) (a1 : (List TL22_one)) (s : Z32) : St := { tmps := slots 116 0 [(0, (.one (.ref 1 0 0 0))), (1, (.one (.own 4))), (5, (.one (.own 5))), (6, (.one (.own 6))), (7, (.one (.pure tyI s.1)))], st := [(0, (.ghost [(.one (.ref 1 0 0 0)), (.one (.own 4))])), (1, (.cells [(.own 2), (.own 3)])), (2, (.map tyPrefix tyAttrs s.2.1 s.2.2.1)), (3, (.map tyPrefix tyAttrs s.2.2.2.1 s.2.2.2.2.1)), (4, (.row tyL22_one a1)), (5, (.row tyPrefix s.2.2.2.2.2.1)), (6, (.row tyPrefix s.2.2.2.2.2.2))], next := 7 }
theorem L22_alike.b0_ev (c0 : Z25) (c1 : Z25) (c2 : Z20) (c3 : Z29) (c4 : Z18) (c5 : Z30) (c6 : Z18) (fuel : Nat) (k0 : Z116) (a0 : DOut) (a1 : (List TL22_one)) (s : Z32) :
    bodyAt (L22_alike.E c0 c1 c2 c3 c4 c5 c6) fuel 3 L22_alike.C (endBy (L22_alike.E c0 c1 c2 c3 c4 c5 c6) [.deep (.box dtOut), .row tyL22_one] [.pure tyB] Tryz.f18) k0 (L22_alike.mk0 a0 a1 s) =
    L22_alike.b0 c0 c1 c2 c3 c4 c5 c6 a0 a1 (fun t => k0 (L22_alike.mk0 a0 a1 t)) s := by kernel_rfl
theorem L22_alike.l0_ev (c0 : Z25) (c1 : Z25) (c2 : Z20) (c3 : Z29) (c4 : Z18) (c5 : Z30) (c6 : Z18) (fuel : Nat) (a0 : DOut) (a1 : (List TL22_one)) (n : Nat) (s : Z32) :
    loopAt (L22_alike.E c0 c1 c2 c3 c4 c5 c6) fuel 3 L22_alike.C (endBy (L22_alike.E c0 c1 c2 c3 c4 c5 c6) [.deep (.box dtOut), .row tyL22_one] [.pure tyB] Tryz.f18) n (L22_alike.mk0 a0 a1 s) = L22_alike.l0 c0 c1 c2 c3 c4 c5 c6 fuel a0 a1 n s :=
  loop_iter (fun k0 s => (L22_alike.b0_ev c0 c1 c2 c3 c4 c5 c6 fuel k0 a0 a1 s)) n s
theorem L22_alike.b_ev (c0 : Z25) (c1 : Z25) (c2 : Z20) (c3 : Z29) (c4 : Z18) (c5 : Z30) (c6 : Z18) (fuel : Nat) (a0 : DOut) (a1 : (List TL22_one)) : evalBy (L22_alike.E c0 c1 c2 c3 c4 c5 c6) fuel Tryz.f18 L22_alike.C [.deep (.box dtOut), .row tyL22_one] [.pure tyB] (a0, a1, ()) =
    L22_alike.b c0 c1 c2 c3 c4 c5 c6 a0 a1 (fun t => loopAt (L22_alike.E c0 c1 c2 c3 c4 c5 c6) fuel 3 L22_alike.C (endBy (L22_alike.E c0 c1 c2 c3 c4 c5 c6) [.deep (.box dtOut), .row tyL22_one] [.pure tyB] Tryz.f18) fuel (L22_alike.mk0 a0 a1 t)) := by kernel_rfl
theorem L22_alike.ev (c0 : Z25) (c1 : Z25) (c2 : Z20) (c3 : Z29) (c4 : Z18) (c5 : Z30) (c6 : Z18) (fuel : Nat) (a0 : DOut) (a1 : (List TL22_one)) : evalBy (L22_alike.E c0 c1 c2 c3 c4 c5 c6) fuel Tryz.f18 L22_alike.C [.deep (.box dtOut), .row tyL22_one] [.pure tyB] (a0, a1, ()) = L22_alike.f c0 c1 c2 c3 c4 c5 c6 fuel a0 a1 :=
  (L22_alike.b_ev c0 c1 c2 c3 c4 c5 c6 fuel a0 a1).trans (congrArg (L22_alike.b c0 c1 c2 c3 c4 c5 c6 a0 a1) (funext fun t => L22_alike.l0_ev c0 c1 c2 c3 c4 c5 c6 fuel a0 a1 fuel t))
noncomputable def L22_at.E (c0 : Z33) : Env := envOf Tryz.prog (pick [(46, ⟨[tyPrefix, tyPrefix], [.pure tyB], c0⟩)]) (pick []) (pick [(2, [(0, none), (3, none), (6, none)])])
noncomputable def L22_at.C : Code := Tryz.f24.body.getD .skip
noncomputable def L22_at.mk0 (a0 : (List TL22_one)) (a1 : TPrefix) (s : (Int × Int × Int)) : St := { tmps := slots 51 0 [(0, (.one (.own 1))), (3, (.one (.ref 2 0 0 0))), (6, (.one (.pure tyI s.1)))], st := [(0, (.ghost [(.one (.own 1)), (.one (.pure tyPrefix a1))])), (1, (.row tyL22_one a0)), (2, (.cells [(.pure tyW s.2.1), (.pure tyI s.2.2)]))], next := 3 }
theorem L22_at.b0_ev (c0 : Z33) (fuel : Nat) (k0 : Z117) (a0 : (List TL22_one)) (a1 : TPrefix) (s : (Int × Int × Int)) :
    bodyAt (L22_at.E c0) fuel 2 L22_at.C (endBy (L22_at.E c0) [.give tyL22_one, .pure tyPrefix] [.fresh tyL22_one, .pure tyI] Tryz.f24) k0 (L22_at.mk0 a0 a1 s) =
    L22_at.b0 c0 a0 a1 (fun t => k0 (L22_at.mk0 a0 a1 t)) s := by kernel_rfl
theorem L22_at.l0_ev (c0 : Z33) (fuel : Nat) (a0 : (List TL22_one)) (a1 : TPrefix) (n : Nat) (s : (Int × Int × Int)) :
    loopAt (L22_at.E c0) fuel 2 L22_at.C (endBy (L22_at.E c0) [.give tyL22_one, .pure tyPrefix] [.fresh tyL22_one, .pure tyI] Tryz.f24) n (L22_at.mk0 a0 a1 s) = L22_at.l0 c0 fuel a0 a1 n s :=
  loop_iter (fun k0 s => (L22_at.b0_ev c0 fuel k0 a0 a1 s)) n s
theorem L22_at.b_ev (c0 : Z33) (fuel : Nat) (a0 : (List TL22_one)) (a1 : TPrefix) : evalBy (L22_at.E c0) fuel Tryz.f24 L22_at.C [.give tyL22_one, .pure tyPrefix] [.fresh tyL22_one, .pure tyI] (some a0, a1, ()) =
    L22_at.b c0 a0 a1 (fun t => loopAt (L22_at.E c0) fuel 2 L22_at.C (endBy (L22_at.E c0) [.give tyL22_one, .pure tyPrefix] [.fresh tyL22_one, .pure tyI] Tryz.f24) fuel (L22_at.mk0 a0 a1 t)) := by kernel_rfl
theorem L22_at.ev (c0 : Z33) (fuel : Nat) (a0 : (List TL22_one)) (a1 : TPrefix) : evalBy (L22_at.E c0) fuel Tryz.f24 L22_at.C [.give tyL22_one, .pure tyPrefix] [.fresh tyL22_one, .pure tyI] (some a0, a1, ()) = L22_at.f c0 fuel a0 a1 :=
  (L22_at.b_ev c0 fuel a0 a1).trans (congrArg (L22_at.b c0 a0 a1) (funext fun t => L22_at.l0_ev c0 fuel a0 a1 fuel t))
noncomputable def L22_do.E (c0 : Z13) (c1 : Z35) (c2 : Z14) (c3 : Z15) (c4 : Z36) (c5 : Z37) (c6 : Z38) (c7 : Z35) (c8 : Z19) (c9 : Z16) (c10 : Z29) (c11 : Z20) (c12 : Z17) : Env := envOf Tryz.prog (pick [(9, ⟨[tyL22_Ask], [.pure tyPrefix], c0⟩), (21, ⟨[tyAttrs], [.pure tyAttrs], c1⟩), (10, ⟨[tyAttrs, tyW], [.pure tyAttrs], c2⟩), (22, ⟨[tyPrefix], [.pure tyB], c4⟩), (23, ⟨[tyAttrs], [.pure tyB], c5⟩), (25, ⟨[tyAttrs], [.pure tyAttrs], c7⟩), (26, ⟨[tyL22_one], [.pure tyB], c10⟩), (16, ⟨[tyAttrs, tyAttrs], [.pure tyB], c11⟩)]) (pick [(8, extBy ⟨[.deep (.box dtOut), .pure tyPrefix, .pure tyAttrs], [.pure tyI], c3⟩), (24, extBy ⟨[.give tyL22_one, .pure tyPrefix], [.fresh tyL22_one, .pure tyI], c6⟩), (15, extBy ⟨[.deep (.box dtOut), .pure tyPrefix], [.pure tyB], c8⟩), (11, extBy ⟨[.deep (.box dtOut)], [.fresh tyadjout_Change], c9⟩), (12, extBy ⟨[.deep (.box dtOut)], [], c12⟩)]) (pick [(28, [(1, none), (15, none), (16, none), (17, none)]), (18, [(0, none), (1, none), (8, none), (13, none), (14, none)])])
noncomputable def L22_do.C : Code := Tryz.f7.body.getD .skip
noncomputable def L22_do.mk1 (a0 : DOut) (a1 : (List TL22_one)) (a2 : TL22_Ask) (s : Z40) : St := { tmps := slots 213 0 [(1, (.one (.own 4))), (15, (.one (.own 5))), (16, (.one (.pure tyI s.1))), (17, (.one (.pure tyI s.2.1)))], st := [(0, (.ghost [(.one (.ref 1 0 0 0)), (.one (.own 4)), (.one (.pure tyL22_Ask a2))])), (1, (.cells [(.own 2), (.own 3)])), (2, (.map tyPrefix tyAttrs s.2.2.1 s.2.2.2.1)), (3, (.map tyPrefix tyAttrs s.2.2.2.2.1 s.2.2.2.2.2.1)), (4, (.row tyL22_one s.2.2.2.2.2.2.1)), (5, (.row tyadjout_Change s.2.2.2.2.2.2.2))], next := 6 }
noncomputable def L22_do.mk0 (a0 : DOut) (a1 : (List TL22_one)) (a2 : TL22_Ask) (s : Z42) : St := { tmps := slots 213 0 [(0, (.one (.ref 1 0 0 0))), (1, (.one (.own 4))), (8, (.one (.ref 5 0 0 0))), (13, (.one (.pure tyB s.1))), (14, (.one (.pure tyI s.2.1)))], st := [(0, (.ghost [(.one (.ref 1 0 0 0)), (.one (.own 4)), (.one (.pure tyL22_Ask a2))])), (1, (.cells [(.own 2), (.own 3)])), (2, (.map tyPrefix tyAttrs s.2.2.1 s.2.2.2.1)), (3, (.map tyPrefix tyAttrs s.2.2.2.2.1 s.2.2.2.2.2.1)), (4, (.row tyL22_one s.2.2.2.2.2.2.1)), (5, (.cells [(.pure tyW s.2.2.2.2.2.2.2.1), (.pure tyI s.2.2.2.2.2.2.2.2)]))], next := 6 }
theorem L22_do.b1_ev (c0 : Z13) (c1 : Z35) (c2 : Z14) (c3 : Z15) (c4 : Z36) (c5 : Z37) (c6 : Z38) (c7 : Z35) (c8 : Z19) (c9 : Z16) (c10 : Z29) (c11 : Z20) (c12 : Z17) (fuel : Nat) (k1 : Z118) (a0 : DOut) (a1 : (List TL22_one)) (a2 : TL22_Ask) (s : Z40) :
    bodyAt (L22_do.E c0 c1 c2 c3 c4 c5 c6 c7 c8 c9 c10 c11 c12) fuel 28 L22_do.C (endBy (L22_do.E c0 c1 c2 c3 c4 c5 c6 c7 c8 c9 c10 c11 c12) [.deep (.box dtOut), .give tyL22_one, .pure tyL22_Ask] [.fresh tyL22_one, .pure tyB] Tryz.f7) k1 (L22_do.mk1 a0 a1 a2 s) =
    L22_do.b1 c0 c1 c2 c3 c4 c5 c6 c7 c8 c9 c10 c11 c12 a0 a1 a2 (fun t => k1 (L22_do.mk1 a0 a1 a2 t)) s := by kernel_rfl
theorem L22_do.l1_ev (c0 : Z13) (c1 : Z35) (c2 : Z14) (c3 : Z15) (c4 : Z36) (c5 : Z37) (c6 : Z38) (c7 : Z35) (c8 : Z19) (c9 : Z16) (c10 : Z29) (c11 : Z20) (c12 : Z17) (fuel : Nat) (a0 : DOut) (a1 : (List TL22_one)) (a2 : TL22_Ask) (n : Nat) (s : Z40) :
    loopAt (L22_do.E c0 c1 c2 c3 c4 c5 c6 c7 c8 c9 c10 c11 c12) fuel 28 L22_do.C (endBy (L22_do.E c0 c1 c2 c3 c4 c5 c6 c7 c8 c9 c10 c11 c12) [.deep (.box dtOut), .give tyL22_one, .pure tyL22_Ask] [.fresh tyL22_one, .pure tyB] Tryz.f7) n (L22_do.mk1 a0 a1 a2 s) = L22_do.l1 c0 c1 c2 c3 c4 c5 c6 c7 c8 c9 c10 c11 c12 fuel a0 a1 a2 n s :=
  loop_iter (fun k1 s => (L22_do.b1_ev c0 c1 c2 c3 c4 c5 c6 c7 c8 c9 c10 c11 c12 fuel k1 a0 a1 a2 s)) n s
theorem L22_do.b0_ev (c0 : Z13) (c1 : Z35) (c2 : Z14) (c3 : Z15) (c4 : Z36) (c5 : Z37) (c6 : Z38) (c7 : Z35) (c8 : Z19) (c9 : Z16) (c10 : Z29) (c11 : Z20) (c12 : Z17) (fuel : Nat) (k0 : Z118) (a0 : DOut) (a1 : (List TL22_one)) (a2 : TL22_Ask) (s : Z42) :
    bodyAt (L22_do.E c0 c1 c2 c3 c4 c5 c6 c7 c8 c9 c10 c11 c12) fuel 18 L22_do.C (endBy (L22_do.E c0 c1 c2 c3 c4 c5 c6 c7 c8 c9 c10 c11 c12) [.deep (.box dtOut), .give tyL22_one, .pure tyL22_Ask] [.fresh tyL22_one, .pure tyB] Tryz.f7) k0 (L22_do.mk0 a0 a1 a2 s) =
    L22_do.b0 c0 c1 c2 c3 c4 c5 c6 c7 c8 c9 c10 c11 c12 a0 a1 a2 (fun t => k0 (L22_do.mk0 a0 a1 a2 t)) s := by kernel_rfl
theorem L22_do.l0_ev (c0 : Z13) (c1 : Z35) (c2 : Z14) (c3 : Z15) (c4 : Z36) (c5 : Z37) (c6 : Z38) (c7 : Z35) (c8 : Z19) (c9 : Z16) (c10 : Z29) (c11 : Z20) (c12 : Z17) (fuel : Nat) (a0 : DOut) (a1 : (List TL22_one)) (a2 : TL22_Ask) (n : Nat) (s : Z42) :
    loopAt (L22_do.E c0 c1 c2 c3 c4 c5 c6 c7 c8 c9 c10 c11 c12) fuel 18 L22_do.C (endBy (L22_do.E c0 c1 c2 c3 c4 c5 c6 c7 c8 c9 c10 c11 c12) [.deep (.box dtOut), .give tyL22_one, .pure tyL22_Ask] [.fresh tyL22_one, .pure tyB] Tryz.f7) n (L22_do.mk0 a0 a1 a2 s) = L22_do.l0 c0 c1 c2 c3 c4 c5 c6 c7 c8 c9 c10 c11 c12 fuel a0 a1 a2 n s :=
  loop_iter (fun k0 s => (L22_do.b0_ev c0 c1 c2 c3 c4 c5 c6 c7 c8 c9 c10 c11 c12 fuel k0 a0 a1 a2 s)) n s
theorem L22_do.b_ev (c0 : Z13) (c1 : Z35) (c2 : Z14) (c3 : Z15) (c4 : Z36) (c5 : Z37) (c6 : Z38) (c7 : Z35) (c8 : Z19) (c9 : Z16) (c10 : Z29) (c11 : Z20) (c12 : Z17) (fuel : Nat) (a0 : DOut) (a1 : (List TL22_one)) (a2 : TL22_Ask) : evalBy (L22_do.E c0 c1 c2 c3 c4 c5 c6 c7 c8 c9 c10 c11 c12) fuel Tryz.f7 L22_do.C [.deep (.box dtOut), .give tyL22_one, .pure tyL22_Ask] [.fresh tyL22_one, .pure tyB] (a0, some a1, a2, ()) =
    L22_do.b c0 c1 c2 c3 c4 c5 c6 c7 c8 c9 c10 c11 c12 a0 a1 a2 (fun t => loopAt (L22_do.E c0 c1 c2 c3 c4 c5 c6 c7 c8 c9 c10 c11 c12) fuel 28 L22_do.C (endBy (L22_do.E c0 c1 c2 c3 c4 c5 c6 c7 c8 c9 c10 c11 c12) [.deep (.box dtOut), .give tyL22_one, .pure tyL22_Ask] [.fresh tyL22_one, .pure tyB] Tryz.f7) fuel (L22_do.mk1 a0 a1 a2 t)) (fun t => loopAt (L22_do.E c0 c1 c2 c3 c4 c5 c6 c7 c8 c9 c10 c11 c12) fuel 18 L22_do.C (endBy (L22_do.E c0 c1 c2 c3 c4 c5 c6 c7 c8 c9 c10 c11 c12) [.deep (.box dtOut), .give tyL22_one, .pure tyL22_Ask] [.fresh tyL22_one, .pure tyB] Tryz.f7) fuel (L22_do.mk0 a0 a1 a2 t)) := by kernel_rfl
theorem L22_do.ev (c0 : Z13) (c1 : Z35) (c2 : Z14) (c3 : Z15) (c4 : Z36) (c5 : Z37) (c6 : Z38) (c7 : Z35) (c8 : Z19) (c9 : Z16) (c10 : Z29) (c11 : Z20) (c12 : Z17) (fuel : Nat) (a0 : DOut) (a1 : (List TL22_one)) (a2 : TL22_Ask) : evalBy (L22_do.E c0 c1 c2 c3 c4 c5 c6 c7 c8 c9 c10 c11 c12) fuel Tryz.f7 L22_do.C [.deep (.box dtOut), .give tyL22_one, .pure tyL22_Ask] [.fresh tyL22_one, .pure tyB] (a0, some a1, a2, ()) = L22_do.f c0 c1 c2 c3 c4 c5 c6 c7 c8 c9 c10 c11 c12 fuel a0 a1 a2 :=
  (L22_do.b_ev c0 c1 c2 c3 c4 c5 c6 c7 c8 c9 c10 c11 c12 fuel a0 a1 a2).trans (congr (congrArg (L22_do.b c0 c1 c2 c3 c4 c5 c6 c7 c8 c9 c10 c11 c12 a0 a1 a2) (funext fun t => L22_do.l1_ev c0 c1 c2 c3 c4 c5 c6 c7 c8 c9 c10 c11 c12 fuel a0 a1 a2 fuel t)) (funext fun t => L22_do.l0_ev c0 c1 c2 c3 c4 c5 c6 c7 c8 c9 c10 c11 c12 fuel a0 a1 a2 fuel t))
noncomputable def L22_known.E (c0 : Z11) (c1 : Z14) (c2 : Z15) (c3 : Z18) (c4 : Z16) (c5 : Z19) : Env := envOf Tryz.prog (pick [(10, ⟨[tyAttrs, tyW], [.pure tyAttrs], c1⟩), (13, ⟨[(.box tyadjout_Out)], [.fresh tyPrefix], c3⟩)]) (pick [(6, extBy ⟨[], [.deep (.box dtOut)], c0⟩), (8, extBy ⟨[.deep (.box dtOut), .pure tyPrefix, .pure tyAttrs], [.pure tyI], c2⟩), (11, extBy ⟨[.deep (.box dtOut)], [.fresh tyadjout_Change], c4⟩), (15, extBy ⟨[.deep (.box dtOut), .pure tyPrefix], [.pure tyB], c5⟩)]) (pick [])
noncomputable def L22_known.C : Code := Tryz.f17.body.getD .skip
theorem L22_known.b_ev (c0 : Z11) (c1 : Z14) (c2 : Z15) (c3 : Z18) (c4 : Z16) (c5 : Z19) (fuel : Nat) : evalBody (L22_known.E c0 c1 c2 c3 c4 c5) fuel Tryz.f17 L22_known.C [] [.pure tyB] (()) =
    L22_known.b c0 c1 c2 c3 c4 c5 := by kernel_rfl
theorem L22_known.ev (c0 : Z11) (c1 : Z14) (c2 : Z15) (c3 : Z18) (c4 : Z16) (c5 : Z19) (fuel : Nat) : evalBody (L22_known.E c0 c1 c2 c3 c4 c5) fuel Tryz.f17 L22_known.C [] [.pure tyB] (()) = L22_known.f c0 c1 c2 c3 c4 c5 fuel :=
  (L22_known.b_ev c0 c1 c2 c3 c4 c5 fuel)
noncomputable def L22_pending.E (c0 : Z20) : Env := envOf Tryz.prog (pick [(48, ⟨[tyAttrs, tyAttrs], [.pure tyB], c0⟩)]) (pick []) (pick [])
noncomputable def L22_pending.C : Code := Tryz.f26.body.getD .skip
theorem L22_pending.b_ev (c0 : Z20) (fuel : Nat) (a0 : TL22_one) : evalBody (L22_pending.E c0) fuel Tryz.f26 L22_pending.C [tyL22_one] [.pure tyB] (a0, ()) =
    L22_pending.b c0 a0 := by kernel_rfl
theorem L22_pending.ev (c0 : Z20) (fuel : Nat) (a0 : TL22_one) : evalBody (L22_pending.E c0) fuel Tryz.f26 L22_pending.C [tyL22_one] [.pure tyB] (a0, ()) = L22_pending.f c0 fuel a0 :=
  (L22_pending.b_ev c0 fuel a0)
noncomputable def L22_prefix.E (c0 : Z3) : Env := envOf Tryz.prog (pick [(30, ⟨[tyW, tyI], [.pure tyPrefix], c0⟩)]) (pick []) (pick [])
noncomputable def L22_prefix.C : Code := Tryz.f9.body.getD .skip
theorem L22_prefix.b_ev (c0 : Z3) (fuel : Nat) (a0 : TL22_Ask) : evalBody (L22_prefix.E c0) fuel Tryz.f9 L22_prefix.C [tyL22_Ask] [.pure tyPrefix] (a0, ()) =
    L22_prefix.b c0 a0 := by kernel_rfl
theorem L22_prefix.ev (c0 : Z3) (fuel : Nat) (a0 : TL22_Ask) : evalBody (L22_prefix.E c0) fuel Tryz.f9 L22_prefix.C [tyL22_Ask] [.pure tyPrefix] (a0, ()) = L22_prefix.f c0 fuel a0 :=
  (L22_prefix.b_ev c0 fuel a0)
noncomputable def Ref1_Less.E (c0 : Z36) : Env := envOf Tryz.prog (pick [(22, ⟨[tyPrefix], [.pure tyB], c0⟩)]) (pick []) (pick [])
noncomputable def Ref1_Less.C : Code := Tryz.f46.body.getD .skip
theorem Ref1_Less.b_ev (c0 : Z36) (fuel : Nat) (a0 : TPrefix) (a1 : TPrefix) : evalBody (Ref1_Less.E c0) fuel Tryz.f46 Ref1_Less.C [tyPrefix, tyPrefix] [.pure tyB] (a0, a1, ()) =
    Ref1_Less.b c0 a0 a1 := by kernel_rfl
theorem Ref1_Less.ev (c0 : Z36) (fuel : Nat) (a0 : TPrefix) (a1 : TPrefix) : evalBody (Ref1_Less.E c0) fuel Tryz.f46 Ref1_Less.C [tyPrefix, tyPrefix] [.pure tyB] (a0, a1, ()) = Ref1_Less.f c0 fuel a0 a1 :=
  (Ref1_Less.b_ev c0 fuel a0 a1)
noncomputable def Ref1_Mask.E : Env := envOf Tryz.prog (pick []) (pick []) (pick [(3, [(0, none), (3, none), (4, none)])])
noncomputable def Ref1_Mask.C : Code := Tryz.f43.body.getD .skip
noncomputable def Ref1_Mask.mk0 (a0 : Int) (s : (Int × Int)) : St := { tmps := slots 21 0 [(0, (.one (.pure tyI a0))), (3, (.one (.pure tyW s.1))), (4, (.one (.pure tyI s.2)))], st := [], next := 0 }
theorem Ref1_Mask.b0_ev (fuel : Nat) (k0 : St → Option (Int × Unit)) (a0 : Int) (s : (Int × Int)) :
    bodyAt (Ref1_Mask.E) fuel 3 Ref1_Mask.C (endK (Ref1_Mask.E) [.pure tyW] Tryz.f43) k0 (Ref1_Mask.mk0 a0 s) =
    Ref1_Mask.b0 a0 (fun t => k0 (Ref1_Mask.mk0 a0 t)) s := by kernel_rfl
theorem Ref1_Mask.l0_ev (fuel : Nat) (a0 : Int) (n : Nat) (s : (Int × Int)) :
    loopAt (Ref1_Mask.E) fuel 3 Ref1_Mask.C (endK (Ref1_Mask.E) [.pure tyW] Tryz.f43) n (Ref1_Mask.mk0 a0 s) = Ref1_Mask.l0 fuel a0 n s :=
  loop_iter (fun k0 s => (Ref1_Mask.b0_ev fuel k0 a0 s)) n s
theorem Ref1_Mask.b_ev (fuel : Nat) (a0 : Int) : evalBody (Ref1_Mask.E) fuel Tryz.f43 Ref1_Mask.C [tyI] [.pure tyW] (a0, ()) =
    Ref1_Mask.b a0 (fun t => loopAt (Ref1_Mask.E) fuel 3 Ref1_Mask.C (endK (Ref1_Mask.E) [.pure tyW] Tryz.f43) fuel (Ref1_Mask.mk0 a0 t)) := by kernel_rfl
theorem Ref1_Mask.ev (fuel : Nat) (a0 : Int) : evalBody (Ref1_Mask.E) fuel Tryz.f43 Ref1_Mask.C [tyI] [.pure tyW] (a0, ()) = Ref1_Mask.f fuel a0 :=
  (Ref1_Mask.b_ev fuel a0).trans (congrArg (Ref1_Mask.b a0) (funext fun t => Ref1_Mask.l0_ev fuel a0 fuel t))
noncomputable def Ref1_Of.E (c0 : Int × Unit → Option (Int × Unit)) : Env := envOf Tryz.prog (pick [(43, ⟨[tyI], [.pure tyW], c0⟩)]) (pick []) (pick [])
noncomputable def Ref1_Of.C : Code := Tryz.f57.body.getD .skip
theorem Ref1_Of.b_ev (c0 : Int × Unit → Option (Int × Unit)) (fuel : Nat) (a0 : Int) (a1 : Int) : evalBody (Ref1_Of.E c0) fuel Tryz.f57 Ref1_Of.C [tyW, tyI] [.pure tyPrefix] (a0, a1, ()) =
    Ref1_Of.b c0 a0 a1 := by kernel_rfl
theorem Ref1_Of.ev (c0 : Int × Unit → Option (Int × Unit)) (fuel : Nat) (a0 : Int) (a1 : Int) : evalBody (Ref1_Of.E c0) fuel Tryz.f57 Ref1_Of.C [tyW, tyI] [.pure tyPrefix] (a0, a1, ()) = Ref1_Of.f c0 fuel a0 a1 :=
  (Ref1_Of.b_ev c0 fuel a0 a1)
noncomputable def Ref1_Right.E (c0 : Int × Unit → Option (Int × Unit)) : Env := envOf Tryz.prog (pick [(43, ⟨[tyI], [.pure tyW], c0⟩)]) (pick []) (pick [])
noncomputable def Ref1_Right.C : Code := Tryz.f22.body.getD .skip
theorem Ref1_Right.b_ev (c0 : Int × Unit → Option (Int × Unit)) (fuel : Nat) (a0 : TPrefix) : evalBody (Ref1_Right.E c0) fuel Tryz.f22 Ref1_Right.C [tyPrefix] [.pure tyB] (a0, ()) =
    Ref1_Right.b c0 a0 := by kernel_rfl
theorem Ref1_Right.ev (c0 : Int × Unit → Option (Int × Unit)) (fuel : Nat) (a0 : TPrefix) : evalBody (Ref1_Right.E c0) fuel Tryz.f22 Ref1_Right.C [tyPrefix] [.pure tyB] (a0, ()) = Ref1_Right.f c0 fuel a0 :=
  (Ref1_Right.b_ev c0 fuel a0)
noncomputable def Ref6_Copy.E : Env := envOf Tryz.prog (pick []) (pick []) (pick [(3, [(0, none), (3, some tySeg), (4, none)])])
noncomputable def Ref6_Copy.C : Code := Tryz.f47.body.getD .skip
noncomputable def Ref6_Copy.mk0 (a0 : (List TSeg)) (s : (Int × (List TSeg))) : St := { tmps := slots 28 0 [(0, (.one (.pure (.sl tySeg) a0))), (3, (.one (.own 0))), (4, (.one (.pure tyI s.1)))], st := [(0, (.row tySeg s.2))], next := 1 }
theorem Ref6_Copy.b0_ev (fuel : Nat) (k0 : St → Option (List TSeg × Unit)) (a0 : (List TSeg)) (s : (Int × (List TSeg))) :
    bodyAt (Ref6_Copy.E) fuel 3 Ref6_Copy.C (endK (Ref6_Copy.E) [.fresh tySeg] Tryz.f47) k0 (Ref6_Copy.mk0 a0 s) =
    Ref6_Copy.b0 a0 (fun t => k0 (Ref6_Copy.mk0 a0 t)) s := by kernel_rfl
theorem Ref6_Copy.l0_ev (fuel : Nat) (a0 : (List TSeg)) (n : Nat) (s : (Int × (List TSeg))) :
    loopAt (Ref6_Copy.E) fuel 3 Ref6_Copy.C (endK (Ref6_Copy.E) [.fresh tySeg] Tryz.f47) n (Ref6_Copy.mk0 a0 s) = Ref6_Copy.l0 fuel a0 n s :=
  loop_iter (fun k0 s => (Ref6_Copy.b0_ev fuel k0 a0 s)) n s
theorem Ref6_Copy.b_ev (fuel : Nat) (a0 : (List TSeg)) : evalBody (Ref6_Copy.E) fuel Tryz.f47 Ref6_Copy.C [(.sl tySeg)] [.fresh tySeg] (a0, ()) =
    Ref6_Copy.b a0 (fun t => loopAt (Ref6_Copy.E) fuel 3 Ref6_Copy.C (endK (Ref6_Copy.E) [.fresh tySeg] Tryz.f47) fuel (Ref6_Copy.mk0 a0 t)) := by kernel_rfl
theorem Ref6_Copy.ev (fuel : Nat) (a0 : (List TSeg)) : evalBody (Ref6_Copy.E) fuel Tryz.f47 Ref6_Copy.C [(.sl tySeg)] [.fresh tySeg] (a0, ()) = Ref6_Copy.f fuel a0 :=
  (Ref6_Copy.b_ev fuel a0).trans (congrArg (Ref6_Copy.b a0) (funext fun t => Ref6_Copy.l0_ev fuel a0 fuel t))
noncomputable def Ref6_Order.E (c0 : Bool × Unit → Option (Int × Unit)) : Env := envOf Tryz.prog (pick [(64, ⟨[tyB], [.pure tyI], c0⟩)]) (pick []) (pick [(2, [(0, none), (1, none), (5, none)]), (9, [(0, none), (1, none), (5, none), (6, none)])])
noncomputable def Ref6_Order.C : Code := Tryz.f39.body.getD .skip
noncomputable def Ref6_Order.mk0 (a0 : (List TSeg)) (a1 : (List TSeg)) (s : Int) : St := { tmps := slots 125 0 [(0, (.one (.pure (.sl tySeg) a0))), (1, (.one (.pure (.sl tySeg) a1))), (5, (.one (.pure tyI s)))], st := [], next := 0 }
noncomputable def Ref6_Order.mk1 (a0 : (List TSeg)) (a1 : (List TSeg)) (x0_2 : Int) (s : Int) : St := { tmps := slots 125 0 [(0, (.one (.pure (.sl tySeg) a0))), (1, (.one (.pure (.sl tySeg) a1))), (5, (.one (.pure tyI x0_2))), (6, (.one (.pure tyI s)))], st := [], next := 0 }
noncomputable def Ref6_Order.C0 (c0 : Bool × Unit → Option (Int × Unit)) (fuel : Nat) : Code := codeAt (Ref6_Order.E c0) fuel 2 Ref6_Order.C
noncomputable def Ref6_Order.K0 (c0 : Bool × Unit → Option (Int × Unit)) (fuel : Nat) (k0 : St → Option (Int × Unit)) : Ex → St → Option (Int × Unit) := contAt (Ref6_Order.E c0) fuel 2 Ref6_Order.C (endK (Ref6_Order.E c0) [.pure tyI] Tryz.f39) k0
theorem Ref6_Order.b1_ev (c0 : Bool × Unit → Option (Int × Unit)) (fuel : Nat) (k0 : St → Option (Int × Unit)) (k1 : St → Option (Int × Unit)) (a0 : (List TSeg)) (a1 : (List TSeg)) (x0_2 : Int) (s : Int) :
    bodyAt (Ref6_Order.E c0) fuel 9 (Ref6_Order.C0 c0 fuel) (Ref6_Order.K0 c0 fuel k0) k1 (Ref6_Order.mk1 a0 a1 x0_2 s) =
    Ref6_Order.b1 c0 a0 a1 x0_2 (fun t => k0 (Ref6_Order.mk0 a0 a1 t)) (fun t => k1 (Ref6_Order.mk1 a0 a1 x0_2 t)) s := by kernel_rfl
theorem Ref6_Order.l1_ev (c0 : Bool × Unit → Option (Int × Unit)) (fuel : Nat) (k0 : St → Option (Int × Unit)) (a0 : (List TSeg)) (a1 : (List TSeg)) (x0_2 : Int) (n : Nat) (s : Int) :
    loopAt (Ref6_Order.E c0) fuel 9 (Ref6_Order.C0 c0 fuel) (Ref6_Order.K0 c0 fuel k0) n (Ref6_Order.mk1 a0 a1 x0_2 s) = Ref6_Order.l1 c0 fuel a0 a1 x0_2 (fun t => k0 (Ref6_Order.mk0 a0 a1 t)) n s :=
  loop_iter (fun k1 s => (Ref6_Order.b1_ev c0 fuel k0 k1 a0 a1 x0_2 s)) n s
theorem Ref6_Order.b0_ev (c0 : Bool × Unit → Option (Int × Unit)) (fuel : Nat) (k0 : St → Option (Int × Unit)) (a0 : (List TSeg)) (a1 : (List TSeg)) (s : Int) :
    bodyAt (Ref6_Order.E c0) fuel 2 Ref6_Order.C (endK (Ref6_Order.E c0) [.pure tyI] Tryz.f39) k0 (Ref6_Order.mk0 a0 a1 s) =
    Ref6_Order.b0 c0 a0 a1 (fun x0_2 t => loopAt (Ref6_Order.E c0) fuel 9 (Ref6_Order.C0 c0 fuel) (Ref6_Order.K0 c0 fuel k0) fuel (Ref6_Order.mk1 a0 a1 x0_2 t)) (fun t => k0 (Ref6_Order.mk0 a0 a1 t)) s := by kernel_rfl
theorem Ref6_Order.l0_ev (c0 : Bool × Unit → Option (Int × Unit)) (fuel : Nat) (a0 : (List TSeg)) (a1 : (List TSeg)) (n : Nat) (s : Int) :
    loopAt (Ref6_Order.E c0) fuel 2 Ref6_Order.C (endK (Ref6_Order.E c0) [.pure tyI] Tryz.f39) n (Ref6_Order.mk0 a0 a1 s) = Ref6_Order.l0 c0 fuel a0 a1 n s :=
  loop_iter (fun k0 s => (Ref6_Order.b0_ev c0 fuel k0 a0 a1 s).trans (congrFun (congrFun (congrArg (Ref6_Order.b0 c0 a0 a1) (funext fun x0_2 => funext fun t => Ref6_Order.l1_ev c0 fuel k0 a0 a1 x0_2 fuel t)) (fun t => k0 (Ref6_Order.mk0 a0 a1 t))) s)) n s
theorem Ref6_Order.b_ev (c0 : Bool × Unit → Option (Int × Unit)) (fuel : Nat) (a0 : (List TSeg)) (a1 : (List TSeg)) : evalBody (Ref6_Order.E c0) fuel Tryz.f39 Ref6_Order.C [(.sl tySeg), (.sl tySeg)] [.pure tyI] (a0, a1, ()) =
    Ref6_Order.b c0 a0 a1 (fun t => loopAt (Ref6_Order.E c0) fuel 2 Ref6_Order.C (endK (Ref6_Order.E c0) [.pure tyI] Tryz.f39) fuel (Ref6_Order.mk0 a0 a1 t)) := by kernel_rfl
theorem Ref6_Order.ev (c0 : Bool × Unit → Option (Int × Unit)) (fuel : Nat) (a0 : (List TSeg)) (a1 : (List TSeg)) : evalBody (Ref6_Order.E c0) fuel Tryz.f39 Ref6_Order.C [(.sl tySeg), (.sl tySeg)] [.pure tyI] (a0, a1, ()) = Ref6_Order.f c0 fuel a0 a1 :=
  (Ref6_Order.b_ev c0 fuel a0 a1).trans (congrArg (Ref6_Order.b c0 a0 a1) (funext fun t => Ref6_Order.l0_ev c0 fuel a0 a1 fuel t))
noncomputable def Ref6_Right.E : Env := envOf Tryz.prog (pick []) (pick []) (pick [(2, [(0, none), (3, none)])])
noncomputable def Ref6_Right.C : Code := Tryz.f44.body.getD .skip
noncomputable def Ref6_Right.mk0 (a0 : (List TSeg)) (s : Int) : St := { tmps := slots 45 0 [(0, (.one (.pure (.sl tySeg) a0))), (3, (.one (.pure tyI s)))], st := [], next := 0 }
theorem Ref6_Right.b0_ev (fuel : Nat) (k0 : St → Option (Bool × Unit)) (a0 : (List TSeg)) (s : Int) :
    bodyAt (Ref6_Right.E) fuel 2 Ref6_Right.C (endK (Ref6_Right.E) [.pure tyB] Tryz.f44) k0 (Ref6_Right.mk0 a0 s) =
    Ref6_Right.b0 a0 (fun t => k0 (Ref6_Right.mk0 a0 t)) s := by kernel_rfl
theorem Ref6_Right.l0_ev (fuel : Nat) (a0 : (List TSeg)) (n : Nat) (s : Int) :
    loopAt (Ref6_Right.E) fuel 2 Ref6_Right.C (endK (Ref6_Right.E) [.pure tyB] Tryz.f44) n (Ref6_Right.mk0 a0 s) = Ref6_Right.l0 fuel a0 n s :=
  loop_iter (fun k0 s => (Ref6_Right.b0_ev fuel k0 a0 s)) n s
theorem Ref6_Right.b_ev (fuel : Nat) (a0 : (List TSeg)) : evalBody (Ref6_Right.E) fuel Tryz.f44 Ref6_Right.C [(.sl tySeg)] [.pure tyB] (a0, ()) =
    Ref6_Right.b a0 (fun t => loopAt (Ref6_Right.E) fuel 2 Ref6_Right.C (endK (Ref6_Right.E) [.pure tyB] Tryz.f44) fuel (Ref6_Right.mk0 a0 t)) := by kernel_rfl
theorem Ref6_Right.ev (fuel : Nat) (a0 : (List TSeg)) : evalBody (Ref6_Right.E) fuel Tryz.f44 Ref6_Right.C [(.sl tySeg)] [.pure tyB] (a0, ()) = Ref6_Right.f fuel a0 :=
  (Ref6_Right.b_ev fuel a0).trans (congrArg (Ref6_Right.b a0) (funext fun t => Ref6_Right.l0_ev fuel a0 fuel t))
noncomputable def Ref6_side.E : Env := envOf Tryz.prog (pick []) (pick []) (pick [])
noncomputable def Ref6_side.C : Code := Tryz.f64.body.getD .skip
theorem Ref6_side.b_ev (fuel : Nat) (a0 : Bool) : evalBody (Ref6_side.E) fuel Tryz.f64 Ref6_side.C [tyB] [.pure tyI] (a0, ()) =
    Ref6_side.b a0 := by kernel_rfl
theorem Ref6_side.ev (fuel : Nat) (a0 : Bool) : evalBody (Ref6_side.E) fuel Tryz.f64 Ref6_side.C [tyB] [.pure tyI] (a0, ()) = Ref6_side.f fuel a0 :=
  (Ref6_side.b_ev fuel a0)
noncomputable def Ref7_Canon.E (c0 : Z44) (c1 : Z6) : Env := envOf Tryz.prog (pick [(47, ⟨[(.sl tySeg)], [.fresh tySeg], c0⟩)]) (pick [(33, extBy ⟨[.give tyW, .pure tyW], [.fresh tyW], c1⟩)]) (pick [(8, [(1, none), (2, none), (3, some tyW), (4, none)])])
noncomputable def Ref7_Canon.C : Code := Tryz.f25.body.getD .skip
noncomputable def Ref7_Canon.mk0 (a0 : TAttrs) (s : Z46) : St := { tmps := slots 34 0 [(1, (.one (.ref 0 0 0 0))), (2, (.one (.ref 2 0 0 0))), (3, (.one (.own 3))), (4, (.one (.pure tyI s.1)))], st := [(0, (.cells [(.pure tyI s.2.1), (.own 1), (.pure tyW s.2.2.1), (.pure tyB s.2.2.2.1), (.pure tyW s.2.2.2.2.1), (.pure tyB s.2.2.2.2.2.1), (.pure tyW s.2.2.2.2.2.2.1), (.pure tyB s.2.2.2.2.2.2.2.1), (.pure (.sl tyW) s.2.2.2.2.2.2.2.2.1)])), (1, (.row tySeg s.2.2.2.2.2.2.2.2.2.1)), (2, (.cells [(.pure tyI s.2.2.2.2.2.2.2.2.2.2.1), .nil, (.pure tyW s.2.2.2.2.2.2.2.2.2.2.2.1), (.pure tyB s.2.2.2.2.2.2.2.2.2.2.2.2.1), (.pure tyW s.2.2.2.2.2.2.2.2.2.2.2.2.2.1), (.pure tyB s.2.2.2.2.2.2.2.2.2.2.2.2.2.2.1), (.pure tyW s.2.2.2.2.2.2.2.2.2.2.2.2.2.2.2.1), (.pure tyB s.2.2.2.2.2.2.2.2.2.2.2.2.2.2.2.2.1), .nil])), (3, (.row tyW s.2.2.2.2.2.2.2.2.2.2.2.2.2.2.2.2.2))], next := 4 }
theorem Ref7_Canon.b0_ev (c0 : Z44) (c1 : Z6) (fuel : Nat) (k0 : St → Option (TAttrs × Unit)) (a0 : TAttrs) (s : Z46) :
    bodyAt (Ref7_Canon.E c0 c1) fuel 8 Ref7_Canon.C (endK (Ref7_Canon.E c0 c1) [.pure tyAttrs] Tryz.f25) k0 (Ref7_Canon.mk0 a0 s) =
    Ref7_Canon.b0 c0 c1 a0 (fun t => k0 (Ref7_Canon.mk0 a0 t)) s := by kernel_rfl
theorem Ref7_Canon.l0_ev (c0 : Z44) (c1 : Z6) (fuel : Nat) (a0 : TAttrs) (n : Nat) (s : Z46) :
    loopAt (Ref7_Canon.E c0 c1) fuel 8 Ref7_Canon.C (endK (Ref7_Canon.E c0 c1) [.pure tyAttrs] Tryz.f25) n (Ref7_Canon.mk0 a0 s) = Ref7_Canon.l0 c0 c1 fuel a0 n s :=
  loop_iter (fun k0 s => (Ref7_Canon.b0_ev c0 c1 fuel k0 a0 s)) n s
theorem Ref7_Canon.b_ev (c0 : Z44) (c1 : Z6) (fuel : Nat) (a0 : TAttrs) : evalBody (Ref7_Canon.E c0 c1) fuel Tryz.f25 Ref7_Canon.C [tyAttrs] [.pure tyAttrs] (a0, ()) =
    Ref7_Canon.b c0 c1 a0 (fun t => loopAt (Ref7_Canon.E c0 c1) fuel 8 Ref7_Canon.C (endK (Ref7_Canon.E c0 c1) [.pure tyAttrs] Tryz.f25) fuel (Ref7_Canon.mk0 a0 t)) := by kernel_rfl
theorem Ref7_Canon.ev (c0 : Z44) (c1 : Z6) (fuel : Nat) (a0 : TAttrs) : evalBody (Ref7_Canon.E c0 c1) fuel Tryz.f25 Ref7_Canon.C [tyAttrs] [.pure tyAttrs] (a0, ()) = Ref7_Canon.f c0 c1 fuel a0 :=
  (Ref7_Canon.b_ev c0 c1 fuel a0).trans (congrArg (Ref7_Canon.b c0 c1 a0) (funext fun t => Ref7_Canon.l0_ev c0 c1 fuel a0 fuel t))
noncomputable def Ref7_Good.E : Env := envOf Tryz.prog (pick []) (pick []) (pick [])
noncomputable def Ref7_Good.C : Code := Tryz.f45.body.getD .skip
theorem Ref7_Good.b_ev (fuel : Nat) (a0 : Int) : evalBody (Ref7_Good.E) fuel Tryz.f45 Ref7_Good.C [tyW] [.pure tyB] (a0, ()) =
    Ref7_Good.b a0 := by kernel_rfl
theorem Ref7_Good.ev (fuel : Nat) (a0 : Int) : evalBody (Ref7_Good.E) fuel Tryz.f45 Ref7_Good.C [tyW] [.pure tyB] (a0, ()) = Ref7_Good.f fuel a0 :=
  (Ref7_Good.b_ev fuel a0)
noncomputable def Ref7_Order.E (c0 : Z35) (c1 : Bool × Unit → Option (Int × Unit)) (c2 : Z0) : Env := envOf Tryz.prog (pick [(25, ⟨[tyAttrs], [.pure tyAttrs], c0⟩), (83, ⟨[tyB], [.pure tyI], c1⟩), (39, ⟨[(.sl tySeg), (.sl tySeg)], [.pure tyI], c2⟩)]) (pick []) (pick [(20, [(2, none), (3, none), (6, none)])])
noncomputable def Ref7_Order.C : Code := Tryz.f65.body.getD .skip
noncomputable def Ref7_Order.mk0 (a0 : TAttrs) (a1 : TAttrs) (s : Z48) : St := { tmps := slots 148 0 [(2, (.one (.ref 0 0 0 0))), (3, (.one (.ref 1 0 0 0))), (6, (.one (.pure tyI s.1)))], st := [(0, (.cells [(.pure tyI s.2.1), (.pure (.sl tySeg) s.2.2.1), (.pure tyW s.2.2.2.1), (.pure tyB s.2.2.2.2.1), (.pure tyW s.2.2.2.2.2.1), (.pure tyB s.2.2.2.2.2.2.1), (.pure tyW s.2.2.2.2.2.2.2.1), (.pure tyB s.2.2.2.2.2.2.2.2.1), (.pure (.sl tyW) s.2.2.2.2.2.2.2.2.2.1)])), (1, (.cells [(.pure tyI s.2.2.2.2.2.2.2.2.2.2.1), (.pure (.sl tySeg) s.2.2.2.2.2.2.2.2.2.2.2.1), (.pure tyW s.2.2.2.2.2.2.2.2.2.2.2.2.1), (.pure tyB s.2.2.2.2.2.2.2.2.2.2.2.2.2.1), (.pure tyW s.2.2.2.2.2.2.2.2.2.2.2.2.2.2.1), (.pure tyB s.2.2.2.2.2.2.2.2.2.2.2.2.2.2.2.1), (.pure tyW s.2.2.2.2.2.2.2.2.2.2.2.2.2.2.2.2.1), (.pure tyB s.2.2.2.2.2.2.2.2.2.2.2.2.2.2.2.2.2.1), (.pure (.sl tyW) s.2.2.2.2.2.2.2.2.2.2.2.2.2.2.2.2.2.2)]))], next := 2 }
theorem Ref7_Order.b0_ev (c0 : Z35) (c1 : Bool × Unit → Option (Int × Unit)) (c2 : Z0) (fuel : Nat) (k0 : St → Option (Int × Unit)) (a0 : TAttrs) (a1 : TAttrs) (s : Z48) :
    bodyAt (Ref7_Order.E c0 c1 c2) fuel 20 Ref7_Order.C (endK (Ref7_Order.E c0 c1 c2) [.pure tyI] Tryz.f65) k0 (Ref7_Order.mk0 a0 a1 s) =
    Ref7_Order.b0 c0 c1 c2 a0 a1 (fun t => k0 (Ref7_Order.mk0 a0 a1 t)) s := by kernel_rfl
theorem Ref7_Order.l0_ev (c0 : Z35) (c1 : Bool × Unit → Option (Int × Unit)) (c2 : Z0) (fuel : Nat) (a0 : TAttrs) (a1 : TAttrs) (n : Nat) (s : Z48) :
    loopAt (Ref7_Order.E c0 c1 c2) fuel 20 Ref7_Order.C (endK (Ref7_Order.E c0 c1 c2) [.pure tyI] Tryz.f65) n (Ref7_Order.mk0 a0 a1 s) = Ref7_Order.l0 c0 c1 c2 fuel a0 a1 n s :=
  loop_iter (fun k0 s => (Ref7_Order.b0_ev c0 c1 c2 fuel k0 a0 a1 s)) n s
theorem Ref7_Order.b_ev (c0 : Z35) (c1 : Bool × Unit → Option (Int × Unit)) (c2 : Z0) (fuel : Nat) (a0 : TAttrs) (a1 : TAttrs) : evalBody (Ref7_Order.E c0 c1 c2) fuel Tryz.f65 Ref7_Order.C [tyAttrs, tyAttrs] [.pure tyI] (a0, a1, ()) =
    Ref7_Order.b c0 c1 c2 a0 a1 (fun t => loopAt (Ref7_Order.E c0 c1 c2) fuel 20 Ref7_Order.C (endK (Ref7_Order.E c0 c1 c2) [.pure tyI] Tryz.f65) fuel (Ref7_Order.mk0 a0 a1 t)) := by kernel_rfl
theorem Ref7_Order.ev (c0 : Z35) (c1 : Bool × Unit → Option (Int × Unit)) (c2 : Z0) (fuel : Nat) (a0 : TAttrs) (a1 : TAttrs) : evalBody (Ref7_Order.E c0 c1 c2) fuel Tryz.f65 Ref7_Order.C [tyAttrs, tyAttrs] [.pure tyI] (a0, a1, ()) = Ref7_Order.f c0 c1 c2 fuel a0 a1 :=
  (Ref7_Order.b_ev c0 c1 c2 fuel a0 a1).trans (congrArg (Ref7_Order.b c0 c1 c2 a0 a1) (funext fun t => Ref7_Order.l0_ev c0 c1 c2 fuel a0 a1 fuel t))
noncomputable def Ref7_Put.E : Env := envOf Tryz.prog (pick []) (pick []) (pick [(2, [(0, none), (1, none), (5, none)])])
noncomputable def Ref7_Put.C : Code := Tryz.f33.body.getD .skip
noncomputable def Ref7_Put.mk0 (a0 : (List Int)) (a1 : Int) (s : Int) : St := { tmps := slots 45 0 [(0, (.one (.own 1))), (1, (.one (.pure tyW a1))), (5, (.one (.pure tyI s)))], st := [(0, (.ghost [(.one (.own 1)), (.one (.pure tyW a1))])), (1, (.row tyW a0))], next := 2 }
theorem Ref7_Put.b0_ev (fuel : Nat) (k0 : Z119) (a0 : (List Int)) (a1 : Int) (s : Int) :
    bodyAt (Ref7_Put.E) fuel 2 Ref7_Put.C (endBy (Ref7_Put.E) [.give tyW, .pure tyW] [.fresh tyW] Tryz.f33) k0 (Ref7_Put.mk0 a0 a1 s) =
    Ref7_Put.b0 a0 a1 (fun t => k0 (Ref7_Put.mk0 a0 a1 t)) s := by kernel_rfl
theorem Ref7_Put.l0_ev (fuel : Nat) (a0 : (List Int)) (a1 : Int) (n : Nat) (s : Int) :
    loopAt (Ref7_Put.E) fuel 2 Ref7_Put.C (endBy (Ref7_Put.E) [.give tyW, .pure tyW] [.fresh tyW] Tryz.f33) n (Ref7_Put.mk0 a0 a1 s) = Ref7_Put.l0 fuel a0 a1 n s :=
  loop_iter (fun k0 s => (Ref7_Put.b0_ev fuel k0 a0 a1 s)) n s
theorem Ref7_Put.b_ev (fuel : Nat) (a0 : (List Int)) (a1 : Int) : evalBy (Ref7_Put.E) fuel Tryz.f33 Ref7_Put.C [.give tyW, .pure tyW] [.fresh tyW] (some a0, a1, ()) =
    Ref7_Put.b a0 a1 (fun t => loopAt (Ref7_Put.E) fuel 2 Ref7_Put.C (endBy (Ref7_Put.E) [.give tyW, .pure tyW] [.fresh tyW] Tryz.f33) fuel (Ref7_Put.mk0 a0 a1 t)) := by kernel_rfl
theorem Ref7_Put.ev (fuel : Nat) (a0 : (List Int)) (a1 : Int) : evalBy (Ref7_Put.E) fuel Tryz.f33 Ref7_Put.C [.give tyW, .pure tyW] [.fresh tyW] (some a0, a1, ()) = Ref7_Put.f fuel a0 a1 :=
  (Ref7_Put.b_ev fuel a0 a1).trans (congrArg (Ref7_Put.b a0 a1) (funext fun t => Ref7_Put.l0_ev fuel a0 a1 fuel t))
noncomputable def Ref7_Right.E (c0 : Z50) (c1 : Int × Unit → Option (Bool × Unit)) : Env := envOf Tryz.prog (pick [(44, ⟨[(.sl tySeg)], [.pure tyB], c0⟩), (45, ⟨[tyW], [.pure tyB], c1⟩)]) (pick []) (pick [(4, [(1, none), (3, none)])])
noncomputable def Ref7_Right.C : Code := Tryz.f23.body.getD .skip
noncomputable def Ref7_Right.mk0 (a0 : TAttrs) (s : Z52) : St := { tmps := slots 69 0 [(1, (.one (.ref 0 0 0 0))), (3, (.one (.pure tyI s.1)))], st := [(0, (.cells [(.pure tyI s.2.1), (.pure (.sl tySeg) s.2.2.1), (.pure tyW s.2.2.2.1), (.pure tyB s.2.2.2.2.1), (.pure tyW s.2.2.2.2.2.1), (.pure tyB s.2.2.2.2.2.2.1), (.pure tyW s.2.2.2.2.2.2.2.1), (.pure tyB s.2.2.2.2.2.2.2.2.1), (.pure (.sl tyW) s.2.2.2.2.2.2.2.2.2)]))], next := 1 }
theorem Ref7_Right.b0_ev (c0 : Z50) (c1 : Int × Unit → Option (Bool × Unit)) (fuel : Nat) (k0 : St → Option (Bool × Unit)) (a0 : TAttrs) (s : Z52) :
    bodyAt (Ref7_Right.E c0 c1) fuel 4 Ref7_Right.C (endK (Ref7_Right.E c0 c1) [.pure tyB] Tryz.f23) k0 (Ref7_Right.mk0 a0 s) =
    Ref7_Right.b0 c0 c1 a0 (fun t => k0 (Ref7_Right.mk0 a0 t)) s := by kernel_rfl
theorem Ref7_Right.l0_ev (c0 : Z50) (c1 : Int × Unit → Option (Bool × Unit)) (fuel : Nat) (a0 : TAttrs) (n : Nat) (s : Z52) :
    loopAt (Ref7_Right.E c0 c1) fuel 4 Ref7_Right.C (endK (Ref7_Right.E c0 c1) [.pure tyB] Tryz.f23) n (Ref7_Right.mk0 a0 s) = Ref7_Right.l0 c0 c1 fuel a0 n s :=
  loop_iter (fun k0 s => (Ref7_Right.b0_ev c0 c1 fuel k0 a0 s)) n s
theorem Ref7_Right.b_ev (c0 : Z50) (c1 : Int × Unit → Option (Bool × Unit)) (fuel : Nat) (a0 : TAttrs) : evalBody (Ref7_Right.E c0 c1) fuel Tryz.f23 Ref7_Right.C [tyAttrs] [.pure tyB] (a0, ()) =
    Ref7_Right.b c0 c1 a0 (fun t => loopAt (Ref7_Right.E c0 c1) fuel 4 Ref7_Right.C (endK (Ref7_Right.E c0 c1) [.pure tyB] Tryz.f23) fuel (Ref7_Right.mk0 a0 t)) := by kernel_rfl
theorem Ref7_Right.ev (c0 : Z50) (c1 : Int × Unit → Option (Bool × Unit)) (fuel : Nat) (a0 : TAttrs) : evalBody (Ref7_Right.E c0 c1) fuel Tryz.f23 Ref7_Right.C [tyAttrs] [.pure tyB] (a0, ()) = Ref7_Right.f c0 c1 fuel a0 :=
  (Ref7_Right.b_ev c0 c1 fuel a0).trans (congrArg (Ref7_Right.b c0 c1 a0) (funext fun t => Ref7_Right.l0_ev c0 c1 fuel a0 fuel t))
noncomputable def Ref7_Same.E (c0 : Z53) : Env := envOf Tryz.prog (pick [(65, ⟨[tyAttrs, tyAttrs], [.pure tyI], c0⟩)]) (pick []) (pick [])
noncomputable def Ref7_Same.C : Code := Tryz.f48.body.getD .skip
theorem Ref7_Same.b_ev (c0 : Z53) (fuel : Nat) (a0 : TAttrs) (a1 : TAttrs) : evalBody (Ref7_Same.E c0) fuel Tryz.f48 Ref7_Same.C [tyAttrs, tyAttrs] [.pure tyB] (a0, a1, ()) =
    Ref7_Same.b c0 a0 a1 := by kernel_rfl
theorem Ref7_Same.ev (c0 : Z53) (fuel : Nat) (a0 : TAttrs) (a1 : TAttrs) : evalBody (Ref7_Same.E c0) fuel Tryz.f48 Ref7_Same.C [tyAttrs, tyAttrs] [.pure tyB] (a0, a1, ()) = Ref7_Same.f c0 fuel a0 a1 :=
  (Ref7_Same.b_ev c0 fuel a0 a1)
noncomputable def Ref7_side.E : Env := envOf Tryz.prog (pick []) (pick []) (pick [])
noncomputable def Ref7_side.C : Code := Tryz.f83.body.getD .skip
theorem Ref7_side.b_ev (fuel : Nat) (a0 : Bool) : evalBody (Ref7_side.E) fuel Tryz.f83 Ref7_side.C [tyB] [.pure tyI] (a0, ()) =
    Ref7_side.b a0 := by kernel_rfl
theorem Ref7_side.ev (fuel : Nat) (a0 : Bool) : evalBody (Ref7_side.E) fuel Tryz.f83 Ref7_side.C [tyB] [.pure tyI] (a0, ()) = Ref7_side.f fuel a0 :=
  (Ref7_side.b_ev fuel a0)
noncomputable def addr_Cmp.E (c0 : Z33) : Env := envOf Tryz.prog (pick [(61, ⟨[tyPrefix, tyPrefix], [.pure tyB], c0⟩)]) (pick []) (pick [])
noncomputable def addr_Cmp.C : Code := Tryz.f36.body.getD .skip
theorem addr_Cmp.b_ev (c0 : Z33) (fuel : Nat) (a0 : TPrefix) (a1 : TPrefix) : evalBody (addr_Cmp.E c0) fuel Tryz.f36 addr_Cmp.C [tyPrefix, tyPrefix] [.pure tyI] (a0, a1, ()) =
    addr_Cmp.b c0 a0 a1 := by kernel_rfl
theorem addr_Cmp.ev (c0 : Z33) (fuel : Nat) (a0 : TPrefix) (a1 : TPrefix) : evalBody (addr_Cmp.E c0) fuel Tryz.f36 addr_Cmp.C [tyPrefix, tyPrefix] [.pure tyI] (a0, a1, ()) = addr_Cmp.f c0 fuel a0 a1 :=
  (addr_Cmp.b_ev c0 fuel a0 a1)
noncomputable def addr_Less.E (c0 : Z36) : Env := envOf Tryz.prog (pick [(27, ⟨[tyPrefix], [.pure tyB], c0⟩)]) (pick []) (pick [])
noncomputable def addr_Less.C : Code := Tryz.f61.body.getD .skip
theorem addr_Less.b_ev (c0 : Z36) (fuel : Nat) (a0 : TPrefix) (a1 : TPrefix) : evalBody (addr_Less.E c0) fuel Tryz.f61 addr_Less.C [tyPrefix, tyPrefix] [.pure tyB] (a0, a1, ()) =
    addr_Less.b c0 a0 a1 := by kernel_rfl
theorem addr_Less.ev (c0 : Z36) (fuel : Nat) (a0 : TPrefix) (a1 : TPrefix) : evalBody (addr_Less.E c0) fuel Tryz.f61 addr_Less.C [tyPrefix, tyPrefix] [.pure tyB] (a0, a1, ()) = addr_Less.f c0 fuel a0 a1 :=
  (addr_Less.b_ev c0 fuel a0 a1)
noncomputable def addr_Mask.E : Env := envOf Tryz.prog (pick []) (pick []) (pick [])
noncomputable def addr_Mask.C : Code := Tryz.f49.body.getD .skip
theorem addr_Mask.b_ev (fuel : Nat) (a0 : Int) : evalBody (addr_Mask.E) fuel Tryz.f49 addr_Mask.C [tyI] [.pure tyW] (a0, ()) =
    addr_Mask.b a0 := by kernel_rfl
theorem addr_Mask.ev (fuel : Nat) (a0 : Int) : evalBody (addr_Mask.E) fuel Tryz.f49 addr_Mask.C [tyI] [.pure tyW] (a0, ()) = addr_Mask.f fuel a0 :=
  (addr_Mask.b_ev fuel a0)
noncomputable def addr_Right.E (c0 : Int × Unit → Option (Int × Unit)) : Env := envOf Tryz.prog (pick [(49, ⟨[tyI], [.pure tyW], c0⟩)]) (pick []) (pick [])
noncomputable def addr_Right.C : Code := Tryz.f27.body.getD .skip
theorem addr_Right.b_ev (c0 : Int × Unit → Option (Int × Unit)) (fuel : Nat) (a0 : TPrefix) : evalBody (addr_Right.E c0) fuel Tryz.f27 addr_Right.C [tyPrefix] [.pure tyB] (a0, ()) =
    addr_Right.b c0 a0 := by kernel_rfl
theorem addr_Right.ev (c0 : Int × Unit → Option (Int × Unit)) (fuel : Nat) (a0 : TPrefix) : evalBody (addr_Right.E c0) fuel Tryz.f27 addr_Right.C [tyPrefix] [.pure tyB] (a0, ()) = addr_Right.f c0 fuel a0 :=
  (addr_Right.b_ev c0 fuel a0)
noncomputable def adjout_New.E : Env := envOf Tryz.prog (pick []) (pick []) (pick [])
noncomputable def adjout_New.C : Code := Tryz.f6.body.getD .skip
theorem adjout_New.b_ev (fuel : Nat) : evalBy (adjout_New.E) fuel Tryz.f6 adjout_New.C [] [.deep (.box dtOut)] (()) =
    adjout_New.b := by kernel_rfl
theorem adjout_New.ev (fuel : Nat) : evalBy (adjout_New.E) fuel Tryz.f6 adjout_New.C [] [.deep (.box dtOut)] (()) = adjout_New.f fuel :=
  (adjout_New.b_ev fuel)
noncomputable def adjout_Out_All.E : Env := envOf Tryz.prog (pick []) (pick [(38, capExt 63), (37, sokExt 63 36 tyAttrs)]) (pick [])
noncomputable def adjout_Out_All.C : Code := Tryz.f14.body.getD .skip
theorem adjout_Out_All.b_ev (fuel : Nat) (a0 : Tadjout_Out) : evalBody (adjout_Out_All.E) fuel Tryz.f14 adjout_Out_All.C [(.box tyadjout_Out)] [.fresh tyPrefix] (a0, ()) =
    adjout_Out_All.b a0 := by kernel_rfl
theorem adjout_Out_All.ev (fuel : Nat) (a0 : Tadjout_Out) : evalBody (adjout_Out_All.E) fuel Tryz.f14 adjout_Out_All.C [(.box tyadjout_Out)] [.fresh tyPrefix] (a0, ()) = adjout_Out_All.f fuel a0 :=
  (adjout_Out_All.b_ev fuel a0)
noncomputable def adjout_Out_Clear.E (c0 : Z11) : Env := envOf Tryz.prog (pick []) (pick [(6, extNew dtOut c0)]) (pick [])
noncomputable def adjout_Out_Clear.C : Code := Tryz.f12.body.getD .skip
theorem adjout_Out_Clear.b_ev (c0 : Z11) (fuel : Nat) (a0 : DOut) : evalBy (adjout_Out_Clear.E c0) fuel Tryz.f12 adjout_Out_Clear.C [.deep (.box dtOut)] [] (a0, ()) =
    adjout_Out_Clear.b c0 a0 := by kernel_rfl
theorem adjout_Out_Clear.ev (c0 : Z11) (fuel : Nat) (a0 : DOut) : evalBy (adjout_Out_Clear.E c0) fuel Tryz.f12 adjout_Out_Clear.C [.deep (.box dtOut)] [] (a0, ()) = adjout_Out_Clear.f c0 fuel a0 :=
  (adjout_Out_Clear.b_ev c0 fuel a0)
noncomputable def adjout_Out_Lack.E : Env := envOf Tryz.prog (pick []) (pick []) (pick [])
noncomputable def adjout_Out_Lack.C : Code := Tryz.f15.body.getD .skip
theorem adjout_Out_Lack.b_ev (fuel : Nat) (a0 : DOut) (a1 : TPrefix) : evalBy (adjout_Out_Lack.E) fuel Tryz.f15 adjout_Out_Lack.C [.deep (.box dtOut), .pure tyPrefix] [.pure tyB] (a0, a1, ()) =
    adjout_Out_Lack.b a0 a1 := by kernel_rfl
theorem adjout_Out_Lack.ev (fuel : Nat) (a0 : DOut) (a1 : TPrefix) : evalBy (adjout_Out_Lack.E) fuel Tryz.f15 adjout_Out_Lack.C [.deep (.box dtOut), .pure tyPrefix] [.pure tyB] (a0, a1, ()) = adjout_Out_Lack.f fuel a0 a1 :=
  (adjout_Out_Lack.b_ev fuel a0 a1)
noncomputable def adjout_Out_Pending.E (c0 : Z54) (c1 : Z55) : Env := envOf Tryz.prog (pick [(34, ⟨[(.box tyadjout_Out), tyPrefix], [.pure tyB], c0⟩)]) (pick [(35, extBy ⟨[.row tyPrefix, .fn 36 []], [], c1⟩)]) (pick [(3, [(0, none), (3, some tyPrefix), (12, none)]), (8, [(0, none), (3, some tyPrefix), (28, none)])])
noncomputable def adjout_Out_Pending.C : Code := Tryz.f13.body.getD .skip
noncomputable def adjout_Out_Pending.mk0 (a0 : Tadjout_Out) (s : Z57) : St := { tmps := slots 51 0 [(0, (.one (.pure (.box tyadjout_Out) a0))), (3, (.one (.own 0))), (12, (.one (.own 1)))], st := [(0, (.row tyPrefix s.1)), (1, (.iter tyPrefix tyAttrs s.2.1 s.2.2.1 s.2.2.2))], next := 2 }
noncomputable def adjout_Out_Pending.mk1 (a0 : Tadjout_Out) (s : Z57) : St := { tmps := slots 51 0 [(0, (.one (.pure (.box tyadjout_Out) a0))), (3, (.one (.own 0))), (28, (.one (.own 1)))], st := [(0, (.row tyPrefix s.1)), (1, (.iter tyPrefix tyAttrs s.2.1 s.2.2.1 s.2.2.2))], next := 2 }
theorem adjout_Out_Pending.b1_ev (c0 : Z54) (c1 : Z55) (fuel : Nat) (k1 : St → Option (List TPrefix × Unit)) (a0 : Tadjout_Out) (s : Z57) :
    bodyAt (adjout_Out_Pending.E c0 c1) fuel 8 adjout_Out_Pending.C (endK (adjout_Out_Pending.E c0 c1) [.fresh tyPrefix] Tryz.f13) k1 (adjout_Out_Pending.mk1 a0 s) =
    adjout_Out_Pending.b1 c0 c1 a0 (fun t => k1 (adjout_Out_Pending.mk1 a0 t)) s := by kernel_rfl
theorem adjout_Out_Pending.l1_ev (c0 : Z54) (c1 : Z55) (fuel : Nat) (a0 : Tadjout_Out) (n : Nat) (s : Z57) :
    loopAt (adjout_Out_Pending.E c0 c1) fuel 8 adjout_Out_Pending.C (endK (adjout_Out_Pending.E c0 c1) [.fresh tyPrefix] Tryz.f13) n (adjout_Out_Pending.mk1 a0 s) = adjout_Out_Pending.l1 c0 c1 fuel a0 n s :=
  loop_iter (fun k1 s => (adjout_Out_Pending.b1_ev c0 c1 fuel k1 a0 s)) n s
theorem adjout_Out_Pending.b0_ev (c0 : Z54) (c1 : Z55) (fuel : Nat) (k0 : St → Option (List TPrefix × Unit)) (a0 : Tadjout_Out) (s : Z57) :
    bodyAt (adjout_Out_Pending.E c0 c1) fuel 3 adjout_Out_Pending.C (endK (adjout_Out_Pending.E c0 c1) [.fresh tyPrefix] Tryz.f13) k0 (adjout_Out_Pending.mk0 a0 s) =
    adjout_Out_Pending.b0 c0 c1 a0 (fun t => loopAt (adjout_Out_Pending.E c0 c1) fuel 8 adjout_Out_Pending.C (endK (adjout_Out_Pending.E c0 c1) [.fresh tyPrefix] Tryz.f13) fuel (adjout_Out_Pending.mk1 a0 t)) (fun t => k0 (adjout_Out_Pending.mk0 a0 t)) s := by kernel_rfl
theorem adjout_Out_Pending.l0_ev (c0 : Z54) (c1 : Z55) (fuel : Nat) (a0 : Tadjout_Out) (n : Nat) (s : Z57) :
    loopAt (adjout_Out_Pending.E c0 c1) fuel 3 adjout_Out_Pending.C (endK (adjout_Out_Pending.E c0 c1) [.fresh tyPrefix] Tryz.f13) n (adjout_Out_Pending.mk0 a0 s) = adjout_Out_Pending.l0 c0 c1 fuel a0 n s :=
  loop_iter (fun k0 s => (adjout_Out_Pending.b0_ev c0 c1 fuel k0 a0 s).trans (congrFun (congrFun (congrArg (adjout_Out_Pending.b0 c0 c1 a0) (funext fun t => adjout_Out_Pending.l1_ev c0 c1 fuel a0 fuel t)) (fun t => k0 (adjout_Out_Pending.mk0 a0 t))) s)) n s
theorem adjout_Out_Pending.b_ev (c0 : Z54) (c1 : Z55) (fuel : Nat) (a0 : Tadjout_Out) : evalBody (adjout_Out_Pending.E c0 c1) fuel Tryz.f13 adjout_Out_Pending.C [(.box tyadjout_Out)] [.fresh tyPrefix] (a0, ()) =
    adjout_Out_Pending.b c0 c1 a0 (fun t => loopAt (adjout_Out_Pending.E c0 c1) fuel 3 adjout_Out_Pending.C (endK (adjout_Out_Pending.E c0 c1) [.fresh tyPrefix] Tryz.f13) fuel (adjout_Out_Pending.mk0 a0 t)) := by kernel_rfl
theorem adjout_Out_Pending.ev (c0 : Z54) (c1 : Z55) (fuel : Nat) (a0 : Tadjout_Out) : evalBody (adjout_Out_Pending.E c0 c1) fuel Tryz.f13 adjout_Out_Pending.C [(.box tyadjout_Out)] [.fresh tyPrefix] (a0, ()) = adjout_Out_Pending.f c0 c1 fuel a0 :=
  (adjout_Out_Pending.b_ev c0 c1 fuel a0).trans (congrArg (adjout_Out_Pending.b c0 c1 a0) (funext fun t => adjout_Out_Pending.l0_ev c0 c1 fuel a0 fuel t))
noncomputable def adjout_Out_Take.E (c0 : Z18) (c1 : Z25) (c2 : Z35) : Env := envOf Tryz.prog (pick [(13, ⟨[(.box tyadjout_Out)], [.fresh tyPrefix], c0⟩), (29, ⟨[tyAttrs], [.pure tyAttrs], c2⟩)]) (pick [(20, extBy ⟨[.deep (.box dtOut), .pure tyPrefix], [.pure tyAttrs, .pure tyB], c1⟩)]) (pick [(3, [(0, none), (3, some tyadjout_Change), (9, none), (10, none), (11, none)])])
noncomputable def adjout_Out_Take.C : Code := Tryz.f11.body.getD .skip
noncomputable def adjout_Out_Take.mk0 (a0 : DOut) (s : Z59) : St := { tmps := slots 43 0 [(0, (.one (.ref 1 0 0 0))), (3, (.one (.own 4))), (9, (.one (.own 5))), (10, (.one (.pure tyI s.1))), (11, (.one (.pure tyI s.2.1)))], st := [(0, (.ghost [(.one (.ref 1 0 0 0))])), (1, (.cells [(.own 2), (.own 3)])), (2, (.map tyPrefix tyAttrs s.2.2.1 s.2.2.2.1)), (3, (.map tyPrefix tyAttrs s.2.2.2.2.1 s.2.2.2.2.2.1)), (4, (.row tyadjout_Change s.2.2.2.2.2.2.1)), (5, (.row tyPrefix s.2.2.2.2.2.2.2))], next := 6 }
theorem adjout_Out_Take.b0_ev (c0 : Z18) (c1 : Z25) (c2 : Z35) (fuel : Nat) (k0 : Z120) (a0 : DOut) (s : Z59) :
    bodyAt (adjout_Out_Take.E c0 c1 c2) fuel 3 adjout_Out_Take.C (endBy (adjout_Out_Take.E c0 c1 c2) [.deep (.box dtOut)] [.fresh tyadjout_Change] Tryz.f11) k0 (adjout_Out_Take.mk0 a0 s) =
    adjout_Out_Take.b0 c0 c1 c2 a0 (fun t => k0 (adjout_Out_Take.mk0 a0 t)) s := by kernel_rfl
theorem adjout_Out_Take.l0_ev (c0 : Z18) (c1 : Z25) (c2 : Z35) (fuel : Nat) (a0 : DOut) (n : Nat) (s : Z59) :
    loopAt (adjout_Out_Take.E c0 c1 c2) fuel 3 adjout_Out_Take.C (endBy (adjout_Out_Take.E c0 c1 c2) [.deep (.box dtOut)] [.fresh tyadjout_Change] Tryz.f11) n (adjout_Out_Take.mk0 a0 s) = adjout_Out_Take.l0 c0 c1 c2 fuel a0 n s :=
  loop_iter (fun k0 s => (adjout_Out_Take.b0_ev c0 c1 c2 fuel k0 a0 s)) n s
theorem adjout_Out_Take.b_ev (c0 : Z18) (c1 : Z25) (c2 : Z35) (fuel : Nat) (a0 : DOut) : evalBy (adjout_Out_Take.E c0 c1 c2) fuel Tryz.f11 adjout_Out_Take.C [.deep (.box dtOut)] [.fresh tyadjout_Change] (a0, ()) =
    adjout_Out_Take.b c0 c1 c2 a0 (fun t => loopAt (adjout_Out_Take.E c0 c1 c2) fuel 3 adjout_Out_Take.C (endBy (adjout_Out_Take.E c0 c1 c2) [.deep (.box dtOut)] [.fresh tyadjout_Change] Tryz.f11) fuel (adjout_Out_Take.mk0 a0 t)) := by kernel_rfl
theorem adjout_Out_Take.ev (c0 : Z18) (c1 : Z25) (c2 : Z35) (fuel : Nat) (a0 : DOut) : evalBy (adjout_Out_Take.E c0 c1 c2) fuel Tryz.f11 adjout_Out_Take.C [.deep (.box dtOut)] [.fresh tyadjout_Change] (a0, ()) = adjout_Out_Take.f c0 c1 c2 fuel a0 :=
  (adjout_Out_Take.b_ev c0 c1 c2 fuel a0).trans (congrArg (adjout_Out_Take.b c0 c1 c2 a0) (funext fun t => adjout_Out_Take.l0_ev c0 c1 c2 fuel a0 fuel t))
noncomputable def adjout_Out_Told.E (c0 : Z60) : Env := envOf Tryz.prog (pick []) (pick [(42, extBy ⟨[.map tyPrefix tyAttrs, .pure tyPrefix], [.pure tyAttrs, .pure tyB], c0⟩)]) (pick [])
noncomputable def adjout_Out_Told.C : Code := Tryz.f19.body.getD .skip
theorem adjout_Out_Told.b_ev (c0 : Z60) (fuel : Nat) (a0 : DOut) (a1 : TPrefix) : evalBy (adjout_Out_Told.E c0) fuel Tryz.f19 adjout_Out_Told.C [.deep (.box dtOut), .pure tyPrefix] [.pure tyAttrs, .pure tyB] (a0, a1, ()) =
    adjout_Out_Told.b c0 a0 a1 := by kernel_rfl
theorem adjout_Out_Told.ev (c0 : Z60) (fuel : Nat) (a0 : DOut) (a1 : TPrefix) : evalBy (adjout_Out_Told.E c0) fuel Tryz.f19 adjout_Out_Told.C [.deep (.box dtOut), .pure tyPrefix] [.pure tyAttrs, .pure tyB] (a0, a1, ()) = adjout_Out_Told.f c0 fuel a0 a1 :=
  (adjout_Out_Told.b_ev c0 fuel a0 a1)
noncomputable def adjout_Out_Want.E (c0 : Z36) (c1 : Z37) (c2 : Z35) : Env := envOf Tryz.prog (pick [(27, ⟨[tyPrefix], [.pure tyB], c0⟩), (28, ⟨[tyAttrs], [.pure tyB], c1⟩), (29, ⟨[tyAttrs], [.pure tyAttrs], c2⟩)]) (pick []) (pick [])
noncomputable def adjout_Out_Want.C : Code := Tryz.f8.body.getD .skip
theorem adjout_Out_Want.b_ev (c0 : Z36) (c1 : Z37) (c2 : Z35) (fuel : Nat) (a0 : DOut) (a1 : TPrefix) (a2 : TAttrs) : evalBy (adjout_Out_Want.E c0 c1 c2) fuel Tryz.f8 adjout_Out_Want.C [.deep (.box dtOut), .pure tyPrefix, .pure tyAttrs] [.pure tyI] (a0, a1, a2, ()) =
    adjout_Out_Want.b c0 c1 c2 a0 a1 a2 := by kernel_rfl
theorem adjout_Out_Want.ev (c0 : Z36) (c1 : Z37) (c2 : Z35) (fuel : Nat) (a0 : DOut) (a1 : TPrefix) (a2 : TAttrs) : evalBy (adjout_Out_Want.E c0 c1 c2) fuel Tryz.f8 adjout_Out_Want.C [.deep (.box dtOut), .pure tyPrefix, .pure tyAttrs] [.pure tyI] (a0, a1, a2, ()) = adjout_Out_Want.f c0 c1 c2 fuel a0 a1 a2 :=
  (adjout_Out_Want.b_ev c0 c1 c2 fuel a0 a1 a2)
noncomputable def adjout_Out_Wanted.E (c0 : Z60) : Env := envOf Tryz.prog (pick []) (pick [(42, extBy ⟨[.map tyPrefix tyAttrs, .pure tyPrefix], [.pure tyAttrs, .pure tyB], c0⟩)]) (pick [])
noncomputable def adjout_Out_Wanted.C : Code := Tryz.f20.body.getD .skip
theorem adjout_Out_Wanted.b_ev (c0 : Z60) (fuel : Nat) (a0 : DOut) (a1 : TPrefix) : evalBy (adjout_Out_Wanted.E c0) fuel Tryz.f20 adjout_Out_Wanted.C [.deep (.box dtOut), .pure tyPrefix] [.pure tyAttrs, .pure tyB] (a0, a1, ()) =
    adjout_Out_Wanted.b c0 a0 a1 := by kernel_rfl
theorem adjout_Out_Wanted.ev (c0 : Z60) (fuel : Nat) (a0 : DOut) (a1 : TPrefix) : evalBy (adjout_Out_Wanted.E c0) fuel Tryz.f20 adjout_Out_Wanted.C [.deep (.box dtOut), .pure tyPrefix] [.pure tyAttrs, .pure tyB] (a0, a1, ()) = adjout_Out_Wanted.f c0 fuel a0 a1 :=
  (adjout_Out_Wanted.b_ev c0 fuel a0 a1)
noncomputable def adjout_Out_pending.E (c0 : Z20) : Env := envOf Tryz.prog (pick [(58, ⟨[tyAttrs, tyAttrs], [.pure tyB], c0⟩)]) (pick []) (pick [])
noncomputable def adjout_Out_pending.C : Code := Tryz.f34.body.getD .skip
theorem adjout_Out_pending.b_ev (c0 : Z20) (fuel : Nat) (a0 : Tadjout_Out) (a1 : TPrefix) : evalBody (adjout_Out_pending.E c0) fuel Tryz.f34 adjout_Out_pending.C [(.box tyadjout_Out), tyPrefix] [.pure tyB] (a0, a1, ()) =
    adjout_Out_pending.b c0 a0 a1 := by kernel_rfl
theorem adjout_Out_pending.ev (c0 : Z20) (fuel : Nat) (a0 : Tadjout_Out) (a1 : TPrefix) : evalBody (adjout_Out_pending.E c0) fuel Tryz.f34 adjout_Out_pending.C [(.box tyadjout_Out), tyPrefix] [.pure tyB] (a0, a1, ()) = adjout_Out_pending.f c0 fuel a0 a1 :=
  (adjout_Out_pending.b_ev c0 fuel a0 a1)
noncomputable def adjout_get.E (c0 : Z35) : Env := envOf Tryz.prog (pick [(29, ⟨[tyAttrs], [.pure tyAttrs], c0⟩)]) (pick []) (pick [])
noncomputable def adjout_get.C : Code := Tryz.f42.body.getD .skip
theorem adjout_get.b_ev (c0 : Z35) (fuel : Nat) (a0 : Z61) (a1 : TPrefix) : evalBy (adjout_get.E c0) fuel Tryz.f42 adjout_get.C [.map tyPrefix tyAttrs, .pure tyPrefix] [.pure tyAttrs, .pure tyB] (a0, a1, ()) =
    adjout_get.b c0 a0 a1 := by kernel_rfl
theorem adjout_get.ev (c0 : Z35) (fuel : Nat) (a0 : Z61) (a1 : TPrefix) : evalBy (adjout_get.E c0) fuel Tryz.f42 adjout_get.C [.map tyPrefix tyAttrs, .pure tyPrefix] [.pure tyAttrs, .pure tyB] (a0, a1, ()) = adjout_get.f c0 fuel a0 a1 :=
  (adjout_get.b_ev c0 fuel a0 a1)
noncomputable def aspath_Cmp.E (c0 : Z62) : Env := envOf Tryz.prog (pick []) (pick [(107, extBy ⟨[.pure (.sl tySeg), .pure (.sl tySeg), .fn 108 []], [.pure tyI], c0⟩)]) (pick [])
noncomputable def aspath_Cmp.C : Code := Tryz.f88.body.getD .skip
theorem aspath_Cmp.b_ev (c0 : Z62) (fuel : Nat) (a0 : (List TSeg)) (a1 : (List TSeg)) : evalBody (aspath_Cmp.E c0) fuel Tryz.f88 aspath_Cmp.C [(.sl tySeg), (.sl tySeg)] [.pure tyI] (a0, a1, ()) =
    aspath_Cmp.b c0 a0 a1 := by kernel_rfl
theorem aspath_Cmp.ev (c0 : Z62) (fuel : Nat) (a0 : (List TSeg)) (a1 : (List TSeg)) : evalBody (aspath_Cmp.E c0) fuel Tryz.f88 aspath_Cmp.C [(.sl tySeg), (.sl tySeg)] [.pure tyI] (a0, a1, ()) = aspath_Cmp.f c0 fuel a0 a1 :=
  (aspath_Cmp.b_ev c0 fuel a0 a1)
noncomputable def aspath_Copy.E (c0 : Z63) : Env := envOf Tryz.prog (pick [(67, ⟨[(.sl tyW)], [.fresh tyW], c0⟩)]) (pick []) (pick [(3, [(3, some tySeg), (6, none), (7, none), (8, none)])])
noncomputable def aspath_Copy.C : Code := Tryz.f53.body.getD .skip
noncomputable def aspath_Copy.mk0 (a0 : (List TSeg)) (s : (Int × Int × (List TSeg))) : St := { tmps := slots 23 0 [(3, (.one (.own 0))), (6, (.one (.pure (.sl tySeg) a0))), (7, (.one (.pure tyI s.1))), (8, (.one (.pure tyI s.2.1)))], st := [(0, (.row tySeg s.2.2))], next := 1 }
theorem aspath_Copy.b0_ev (c0 : Z63) (fuel : Nat) (k0 : St → Option (List TSeg × Unit)) (a0 : (List TSeg)) (s : (Int × Int × (List TSeg))) :
    bodyAt (aspath_Copy.E c0) fuel 3 aspath_Copy.C (endK (aspath_Copy.E c0) [.fresh tySeg] Tryz.f53) k0 (aspath_Copy.mk0 a0 s) =
    aspath_Copy.b0 c0 a0 (fun t => k0 (aspath_Copy.mk0 a0 t)) s := by kernel_rfl
theorem aspath_Copy.l0_ev (c0 : Z63) (fuel : Nat) (a0 : (List TSeg)) (n : Nat) (s : (Int × Int × (List TSeg))) :
    loopAt (aspath_Copy.E c0) fuel 3 aspath_Copy.C (endK (aspath_Copy.E c0) [.fresh tySeg] Tryz.f53) n (aspath_Copy.mk0 a0 s) = aspath_Copy.l0 c0 fuel a0 n s :=
  loop_iter (fun k0 s => (aspath_Copy.b0_ev c0 fuel k0 a0 s)) n s
theorem aspath_Copy.b_ev (c0 : Z63) (fuel : Nat) (a0 : (List TSeg)) : evalBody (aspath_Copy.E c0) fuel Tryz.f53 aspath_Copy.C [(.sl tySeg)] [.fresh tySeg] (a0, ()) =
    aspath_Copy.b c0 a0 (fun t => loopAt (aspath_Copy.E c0) fuel 3 aspath_Copy.C (endK (aspath_Copy.E c0) [.fresh tySeg] Tryz.f53) fuel (aspath_Copy.mk0 a0 t)) := by kernel_rfl
theorem aspath_Copy.ev (c0 : Z63) (fuel : Nat) (a0 : (List TSeg)) : evalBody (aspath_Copy.E c0) fuel Tryz.f53 aspath_Copy.C [(.sl tySeg)] [.fresh tySeg] (a0, ()) = aspath_Copy.f c0 fuel a0 :=
  (aspath_Copy.b_ev c0 fuel a0).trans (congrArg (aspath_Copy.b c0 a0) (funext fun t => aspath_Copy.l0_ev c0 fuel a0 fuel t))
noncomputable def aspath_Right.E (c0 : Z65) : Env := envOf Tryz.prog (pick [(66, ⟨[tySeg], [.pure tyB], c0⟩)]) (pick []) (pick [(2, [(0, none), (5, none), (6, none), (7, none)])])
noncomputable def aspath_Right.C : Code := Tryz.f50.body.getD .skip
noncomputable def aspath_Right.mk0 (a0 : (List TSeg)) (s : (Int × Int)) : St := { tmps := slots 18 0 [(0, (.one (.pure (.sl tySeg) a0))), (5, (.one (.pure (.sl tySeg) a0))), (6, (.one (.pure tyI s.1))), (7, (.one (.pure tyI s.2)))], st := [], next := 0 }
theorem aspath_Right.b0_ev (c0 : Z65) (fuel : Nat) (k0 : St → Option (Bool × Unit)) (a0 : (List TSeg)) (s : (Int × Int)) :
    bodyAt (aspath_Right.E c0) fuel 2 aspath_Right.C (endK (aspath_Right.E c0) [.pure tyB] Tryz.f50) k0 (aspath_Right.mk0 a0 s) =
    aspath_Right.b0 c0 a0 (fun t => k0 (aspath_Right.mk0 a0 t)) s := by kernel_rfl
theorem aspath_Right.l0_ev (c0 : Z65) (fuel : Nat) (a0 : (List TSeg)) (n : Nat) (s : (Int × Int)) :
    loopAt (aspath_Right.E c0) fuel 2 aspath_Right.C (endK (aspath_Right.E c0) [.pure tyB] Tryz.f50) n (aspath_Right.mk0 a0 s) = aspath_Right.l0 c0 fuel a0 n s :=
  loop_iter (fun k0 s => (aspath_Right.b0_ev c0 fuel k0 a0 s)) n s
theorem aspath_Right.b_ev (c0 : Z65) (fuel : Nat) (a0 : (List TSeg)) : evalBody (aspath_Right.E c0) fuel Tryz.f50 aspath_Right.C [(.sl tySeg)] [.pure tyB] (a0, ()) =
    aspath_Right.b c0 a0 (fun t => loopAt (aspath_Right.E c0) fuel 2 aspath_Right.C (endK (aspath_Right.E c0) [.pure tyB] Tryz.f50) fuel (aspath_Right.mk0 a0 t)) := by kernel_rfl
theorem aspath_Right.ev (c0 : Z65) (fuel : Nat) (a0 : (List TSeg)) : evalBody (aspath_Right.E c0) fuel Tryz.f50 aspath_Right.C [(.sl tySeg)] [.pure tyB] (a0, ()) = aspath_Right.f c0 fuel a0 :=
  (aspath_Right.b_ev c0 fuel a0).trans (congrArg (aspath_Right.b c0 a0) (funext fun t => aspath_Right.l0_ev c0 fuel a0 fuel t))
noncomputable def aspath_compare.E (c0 : Z67) (c1 : Z68) (c2 : Z69) : Env := envOf Tryz.prog (pick [(87, ⟨[tyI, tyI], [.pure tyI], c0⟩), (91, ⟨[(.sl tyW), (.sl tyW)], [.pure tyI], c1⟩), (86, ⟨[(.sl tyI)], [.pure tyI], c2⟩)]) (pick []) (pick [])
noncomputable def aspath_compare.C : Code := Tryz.f108.body.getD .skip
theorem aspath_compare.b_ev (c0 : Z67) (c1 : Z68) (c2 : Z69) (fuel : Nat) (a0 : TSeg) (a1 : TSeg) : evalBy (aspath_compare.E c0 c1 c2) fuel Tryz.f108 aspath_compare.C [.pure tySeg, .pure tySeg] [.pure tyI] (a0, a1, ()) =
    aspath_compare.b c0 c1 c2 a0 a1 := by kernel_rfl
theorem aspath_compare.ev (c0 : Z67) (c1 : Z68) (c2 : Z69) (fuel : Nat) (a0 : TSeg) (a1 : TSeg) : evalBy (aspath_compare.E c0 c1 c2) fuel Tryz.f108 aspath_compare.C [.pure tySeg, .pure tySeg] [.pure tyI] (a0, a1, ()) = aspath_compare.f c0 c1 c2 fuel a0 a1 :=
  (aspath_compare.b_ev c0 c1 c2 fuel a0 a1)
noncomputable def aspath_right.E : Env := envOf Tryz.prog (pick []) (pick []) (pick [])
noncomputable def aspath_right.C : Code := Tryz.f66.body.getD .skip
theorem aspath_right.b_ev (fuel : Nat) (a0 : TSeg) : evalBody (aspath_right.E) fuel Tryz.f66 aspath_right.C [tySeg] [.pure tyB] (a0, ()) =
    aspath_right.b a0 := by kernel_rfl
theorem aspath_right.ev (fuel : Nat) (a0 : TSeg) : evalBody (aspath_right.E) fuel Tryz.f66 aspath_right.C [tySeg] [.pure tyB] (a0, ()) = aspath_right.f fuel a0 :=
  (aspath_right.b_ev fuel a0)
noncomputable def attr_Canon.E (c0 : Z44) (c2 : Z70) (c3 : Z71) : Env := envOf Tryz.prog (pick [(53, ⟨[(.sl tySeg)], [.fresh tySeg], c0⟩)]) (pick [(55, extBy ⟨[.fn 70 [(.sl tyW)]], [.fresh tyW], c2⟩), (54, extBy ⟨[.give tyW], [.fresh tyW], c3⟩), (56, capExt 70)]) (pick [])
noncomputable def attr_Canon.C : Code := Tryz.f29.body.getD .skip
theorem attr_Canon.b_ev (c0 : Z44) (c2 : Z70) (c3 : Z71) (fuel : Nat) (a0 : TAttrs) : evalBody (attr_Canon.E c0 c2 c3) fuel Tryz.f29 attr_Canon.C [tyAttrs] [.pure tyAttrs] (a0, ()) =
    attr_Canon.b c0 c2 c3 a0 := by kernel_rfl
theorem attr_Canon.ev (c0 : Z44) (c2 : Z70) (c3 : Z71) (fuel : Nat) (a0 : TAttrs) : evalBody (attr_Canon.E c0 c2 c3) fuel Tryz.f29 attr_Canon.C [tyAttrs] [.pure tyAttrs] (a0, ()) = attr_Canon.f c0 c2 c3 fuel a0 :=
  (attr_Canon.b_ev c0 c2 c3 fuel a0)
noncomputable def attr_Cmp.E (c0 : Z35) (c1 : Z67) (c2 : Z0) (c3 : Z67) (c4 : Bool × Unit → Option (Int × Unit)) (c5 : Z68) (c6 : Z69) : Env := envOf Tryz.prog (pick [(29, ⟨[tyAttrs], [.pure tyAttrs], c0⟩), (87, ⟨[tyI, tyI], [.pure tyI], c1⟩), (88, ⟨[(.sl tySeg), (.sl tySeg)], [.pure tyI], c2⟩), (89, ⟨[tyW, tyW], [.pure tyI], c3⟩), (90, ⟨[tyB], [.pure tyI], c4⟩), (91, ⟨[(.sl tyW), (.sl tyW)], [.pure tyI], c5⟩), (86, ⟨[(.sl tyI)], [.pure tyI], c6⟩)]) (pick []) (pick [])
noncomputable def attr_Cmp.C : Code := Tryz.f71.body.getD .skip
theorem attr_Cmp.b_ev (c0 : Z35) (c1 : Z67) (c2 : Z0) (c3 : Z67) (c4 : Bool × Unit → Option (Int × Unit)) (c5 : Z68) (c6 : Z69) (fuel : Nat) (a0 : TAttrs) (a1 : TAttrs) : evalBody (attr_Cmp.E c0 c1 c2 c3 c4 c5 c6) fuel Tryz.f71 attr_Cmp.C [tyAttrs, tyAttrs] [.pure tyI] (a0, a1, ()) =
    attr_Cmp.b c0 c1 c2 c3 c4 c5 c6 a0 a1 := by kernel_rfl
theorem attr_Cmp.ev (c0 : Z35) (c1 : Z67) (c2 : Z0) (c3 : Z67) (c4 : Bool × Unit → Option (Int × Unit)) (c5 : Z68) (c6 : Z69) (fuel : Nat) (a0 : TAttrs) (a1 : TAttrs) : evalBody (attr_Cmp.E c0 c1 c2 c3 c4 c5 c6) fuel Tryz.f71 attr_Cmp.C [tyAttrs, tyAttrs] [.pure tyI] (a0, a1, ()) = attr_Cmp.f c0 c1 c2 c3 c4 c5 c6 fuel a0 a1 :=
  (attr_Cmp.b_ev c0 c1 c2 c3 c4 c5 c6 fuel a0 a1)
noncomputable def attr_Good.E : Env := envOf Tryz.prog (pick []) (pick []) (pick [])
noncomputable def attr_Good.C : Code := Tryz.f51.body.getD .skip
theorem attr_Good.b_ev (fuel : Nat) (a0 : Int) : evalBody (attr_Good.E) fuel Tryz.f51 attr_Good.C [tyW] [.pure tyB] (a0, ()) =
    attr_Good.b a0 := by kernel_rfl
theorem attr_Good.ev (fuel : Nat) (a0 : Int) : evalBody (attr_Good.E) fuel Tryz.f51 attr_Good.C [tyW] [.pure tyB] (a0, ()) = attr_Good.f fuel a0 :=
  (attr_Good.b_ev fuel a0)
noncomputable def attr_Right.E (c0 : Z50) (c1 : Int × Unit → Option (Bool × Unit)) (c2 : Z72) : Env := envOf Tryz.prog (pick [(50, ⟨[(.sl tySeg)], [.pure tyB], c0⟩), (51, ⟨[tyW], [.pure tyB], c1⟩), (52, ⟨[(.sl tyW)], [.pure tyB], c2⟩)]) (pick []) (pick [])
noncomputable def attr_Right.C : Code := Tryz.f28.body.getD .skip
theorem attr_Right.b_ev (c0 : Z50) (c1 : Int × Unit → Option (Bool × Unit)) (c2 : Z72) (fuel : Nat) (a0 : TAttrs) : evalBody (attr_Right.E c0 c1 c2) fuel Tryz.f28 attr_Right.C [tyAttrs] [.pure tyB] (a0, ()) =
    attr_Right.b c0 c1 c2 a0 := by kernel_rfl
theorem attr_Right.ev (c0 : Z50) (c1 : Int × Unit → Option (Bool × Unit)) (c2 : Z72) (fuel : Nat) (a0 : TAttrs) : evalBody (attr_Right.E c0 c1 c2) fuel Tryz.f28 attr_Right.C [tyAttrs] [.pure tyB] (a0, ()) = attr_Right.f c0 c1 c2 fuel a0 :=
  (attr_Right.b_ev c0 c1 c2 fuel a0)
noncomputable def attr_Same.E (c0 : Z53) : Env := envOf Tryz.prog (pick [(71, ⟨[tyAttrs, tyAttrs], [.pure tyI], c0⟩)]) (pick []) (pick [])
noncomputable def attr_Same.C : Code := Tryz.f58.body.getD .skip
theorem attr_Same.b_ev (c0 : Z53) (fuel : Nat) (a0 : TAttrs) (a1 : TAttrs) : evalBody (attr_Same.E c0) fuel Tryz.f58 attr_Same.C [tyAttrs, tyAttrs] [.pure tyB] (a0, a1, ()) =
    attr_Same.b c0 a0 a1 := by kernel_rfl
theorem attr_Same.ev (c0 : Z53) (fuel : Nat) (a0 : TAttrs) (a1 : TAttrs) : evalBody (attr_Same.E c0) fuel Tryz.f58 attr_Same.C [tyAttrs, tyAttrs] [.pure tyB] (a0, a1, ()) = attr_Same.f c0 fuel a0 a1 :=
  (attr_Same.b_ev c0 fuel a0 a1)
noncomputable def attr_rising.E : Env := envOf Tryz.prog (pick []) (pick []) (pick [(2, [(0, none), (3, none)])])
noncomputable def attr_rising.C : Code := Tryz.f52.body.getD .skip
noncomputable def attr_rising.mk0 (a0 : (List Int)) (s : Int) : St := { tmps := slots 20 0 [(0, (.one (.pure (.sl tyW) a0))), (3, (.one (.pure tyI s)))], st := [], next := 0 }
theorem attr_rising.b0_ev (fuel : Nat) (k0 : St → Option (Bool × Unit)) (a0 : (List Int)) (s : Int) :
    bodyAt (attr_rising.E) fuel 2 attr_rising.C (endK (attr_rising.E) [.pure tyB] Tryz.f52) k0 (attr_rising.mk0 a0 s) =
    attr_rising.b0 a0 (fun t => k0 (attr_rising.mk0 a0 t)) s := by kernel_rfl
theorem attr_rising.l0_ev (fuel : Nat) (a0 : (List Int)) (n : Nat) (s : Int) :
    loopAt (attr_rising.E) fuel 2 attr_rising.C (endK (attr_rising.E) [.pure tyB] Tryz.f52) n (attr_rising.mk0 a0 s) = attr_rising.l0 fuel a0 n s :=
  loop_iter (fun k0 s => (attr_rising.b0_ev fuel k0 a0 s)) n s
theorem attr_rising.b_ev (fuel : Nat) (a0 : (List Int)) : evalBody (attr_rising.E) fuel Tryz.f52 attr_rising.C [(.sl tyW)] [.pure tyB] (a0, ()) =
    attr_rising.b a0 (fun t => loopAt (attr_rising.E) fuel 2 attr_rising.C (endK (attr_rising.E) [.pure tyB] Tryz.f52) fuel (attr_rising.mk0 a0 t)) := by kernel_rfl
theorem attr_rising.ev (fuel : Nat) (a0 : (List Int)) : evalBody (attr_rising.E) fuel Tryz.f52 attr_rising.C [(.sl tyW)] [.pure tyB] (a0, ()) = attr_rising.f fuel a0 :=
  (attr_rising.b_ev fuel a0).trans (congrArg (attr_rising.b a0) (funext fun t => attr_rising.l0_ev fuel a0 fuel t))
noncomputable def attr_truth.E : Env := envOf Tryz.prog (pick []) (pick []) (pick [])
noncomputable def attr_truth.C : Code := Tryz.f90.body.getD .skip
theorem attr_truth.b_ev (fuel : Nat) (a0 : Bool) : evalBody (attr_truth.E) fuel Tryz.f90 attr_truth.C [tyB] [.pure tyI] (a0, ()) =
    attr_truth.b a0 := by kernel_rfl
theorem attr_truth.ev (fuel : Nat) (a0 : Bool) : evalBody (attr_truth.E) fuel Tryz.f90 attr_truth.C [tyB] [.pure tyI] (a0, ()) = attr_truth.f fuel a0 :=
  (attr_truth.b_ev fuel a0)
noncomputable def cmp_Compare_int.E (c0 : Int × Unit → Option (Bool × Unit)) : Env := envOf Tryz.prog (pick [(106, ⟨[tyI], [.pure tyB], c0⟩)]) (pick []) (pick [])
noncomputable def cmp_Compare_int.C : Code := Tryz.f87.body.getD .skip
theorem cmp_Compare_int.b_ev (c0 : Int × Unit → Option (Bool × Unit)) (fuel : Nat) (a0 : Int) (a1 : Int) : evalBody (cmp_Compare_int.E c0) fuel Tryz.f87 cmp_Compare_int.C [tyI, tyI] [.pure tyI] (a0, a1, ()) =
    cmp_Compare_int.b c0 a0 a1 := by kernel_rfl
theorem cmp_Compare_int.ev (c0 : Int × Unit → Option (Bool × Unit)) (fuel : Nat) (a0 : Int) (a1 : Int) : evalBody (cmp_Compare_int.E c0) fuel Tryz.f87 cmp_Compare_int.C [tyI, tyI] [.pure tyI] (a0, a1, ()) = cmp_Compare_int.f c0 fuel a0 a1 :=
  (cmp_Compare_int.b_ev c0 fuel a0 a1)
noncomputable def cmp_Compare_uint32.E (c0 : Int × Unit → Option (Bool × Unit)) : Env := envOf Tryz.prog (pick [(109, ⟨[tyW], [.pure tyB], c0⟩)]) (pick []) (pick [])
noncomputable def cmp_Compare_uint32.C : Code := Tryz.f89.body.getD .skip
theorem cmp_Compare_uint32.b_ev (c0 : Int × Unit → Option (Bool × Unit)) (fuel : Nat) (a0 : Int) (a1 : Int) : evalBody (cmp_Compare_uint32.E c0) fuel Tryz.f89 cmp_Compare_uint32.C [tyW, tyW] [.pure tyI] (a0, a1, ()) =
    cmp_Compare_uint32.b c0 a0 a1 := by kernel_rfl
theorem cmp_Compare_uint32.ev (c0 : Int × Unit → Option (Bool × Unit)) (fuel : Nat) (a0 : Int) (a1 : Int) : evalBody (cmp_Compare_uint32.E c0) fuel Tryz.f89 cmp_Compare_uint32.C [tyW, tyW] [.pure tyI] (a0, a1, ()) = cmp_Compare_uint32.f c0 fuel a0 a1 :=
  (cmp_Compare_uint32.b_ev c0 fuel a0 a1)
noncomputable def cmp_Less_uint32.E (c0 : Int × Unit → Option (Bool × Unit)) : Env := envOf Tryz.prog (pick [(109, ⟨[tyW], [.pure tyB], c0⟩)]) (pick []) (pick [])
noncomputable def cmp_Less_uint32.C : Code := Tryz.f103.body.getD .skip
theorem cmp_Less_uint32.b_ev (c0 : Int × Unit → Option (Bool × Unit)) (fuel : Nat) (a0 : Int) (a1 : Int) : evalBody (cmp_Less_uint32.E c0) fuel Tryz.f103 cmp_Less_uint32.C [tyW, tyW] [.pure tyB] (a0, a1, ()) =
    cmp_Less_uint32.b c0 a0 a1 := by kernel_rfl
theorem cmp_Less_uint32.ev (c0 : Int × Unit → Option (Bool × Unit)) (fuel : Nat) (a0 : Int) (a1 : Int) : evalBody (cmp_Less_uint32.E c0) fuel Tryz.f103 cmp_Less_uint32.C [tyW, tyW] [.pure tyB] (a0, a1, ()) = cmp_Less_uint32.f c0 fuel a0 a1 :=
  (cmp_Less_uint32.b_ev c0 fuel a0 a1)
noncomputable def cmp_Or_int.E : Env := envOf Tryz.prog (pick []) (pick []) (pick [(3, [(3, none), (6, none), (7, none), (8, none)])])
noncomputable def cmp_Or_int.C : Code := Tryz.f86.body.getD .skip
noncomputable def cmp_Or_int.mk0 (a0 : (List Int)) (s : (Int × Int × Int)) : St := { tmps := slots 18 0 [(3, (.one (.pure tyI s.1))), (6, (.one (.pure (.sl tyI) a0))), (7, (.one (.pure tyI s.2.1))), (8, (.one (.pure tyI s.2.2)))], st := [], next := 0 }
theorem cmp_Or_int.b0_ev (fuel : Nat) (k0 : St → Option (Int × Unit)) (a0 : (List Int)) (s : (Int × Int × Int)) :
    bodyAt (cmp_Or_int.E) fuel 3 cmp_Or_int.C (endK (cmp_Or_int.E) [.pure tyI] Tryz.f86) k0 (cmp_Or_int.mk0 a0 s) =
    cmp_Or_int.b0 a0 (fun t => k0 (cmp_Or_int.mk0 a0 t)) s := by kernel_rfl
theorem cmp_Or_int.l0_ev (fuel : Nat) (a0 : (List Int)) (n : Nat) (s : (Int × Int × Int)) :
    loopAt (cmp_Or_int.E) fuel 3 cmp_Or_int.C (endK (cmp_Or_int.E) [.pure tyI] Tryz.f86) n (cmp_Or_int.mk0 a0 s) = cmp_Or_int.l0 fuel a0 n s :=
  loop_iter (fun k0 s => (cmp_Or_int.b0_ev fuel k0 a0 s)) n s
theorem cmp_Or_int.b_ev (fuel : Nat) (a0 : (List Int)) : evalBody (cmp_Or_int.E) fuel Tryz.f86 cmp_Or_int.C [(.sl tyI)] [.pure tyI] (a0, ()) =
    cmp_Or_int.b a0 (fun t => loopAt (cmp_Or_int.E) fuel 3 cmp_Or_int.C (endK (cmp_Or_int.E) [.pure tyI] Tryz.f86) fuel (cmp_Or_int.mk0 a0 t)) := by kernel_rfl
theorem cmp_Or_int.ev (fuel : Nat) (a0 : (List Int)) : evalBody (cmp_Or_int.E) fuel Tryz.f86 cmp_Or_int.C [(.sl tyI)] [.pure tyI] (a0, ()) = cmp_Or_int.f fuel a0 :=
  (cmp_Or_int.b_ev fuel a0).trans (congrArg (cmp_Or_int.b a0) (funext fun t => cmp_Or_int.l0_ev fuel a0 fuel t))
noncomputable def cmp_isNaN_int.E : Env := envOf Tryz.prog (pick []) (pick []) (pick [])
noncomputable def cmp_isNaN_int.C : Code := Tryz.f106.body.getD .skip
theorem cmp_isNaN_int.b_ev (fuel : Nat) (a0 : Int) : evalBody (cmp_isNaN_int.E) fuel Tryz.f106 cmp_isNaN_int.C [tyI] [.pure tyB] (a0, ()) =
    cmp_isNaN_int.b a0 := by kernel_rfl
theorem cmp_isNaN_int.ev (fuel : Nat) (a0 : Int) : evalBody (cmp_isNaN_int.E) fuel Tryz.f106 cmp_isNaN_int.C [tyI] [.pure tyB] (a0, ()) = cmp_isNaN_int.f fuel a0 :=
  (cmp_isNaN_int.b_ev fuel a0)
noncomputable def cmp_isNaN_uint32.E : Env := envOf Tryz.prog (pick []) (pick []) (pick [])
noncomputable def cmp_isNaN_uint32.C : Code := Tryz.f109.body.getD .skip
theorem cmp_isNaN_uint32.b_ev (fuel : Nat) (a0 : Int) : evalBody (cmp_isNaN_uint32.E) fuel Tryz.f109 cmp_isNaN_uint32.C [tyW] [.pure tyB] (a0, ()) =
    cmp_isNaN_uint32.b a0 := by kernel_rfl
theorem cmp_isNaN_uint32.ev (fuel : Nat) (a0 : Int) : evalBody (cmp_isNaN_uint32.E) fuel Tryz.f109 cmp_isNaN_uint32.C [tyW] [.pure tyB] (a0, ()) = cmp_isNaN_uint32.f fuel a0 :=
  (cmp_isNaN_uint32.b_ev fuel a0)
noncomputable def slices_Clone_uint32_uint32.E : Env := envOf Tryz.prog (pick []) (pick []) (pick [])
noncomputable def slices_Clone_uint32_uint32.C : Code := Tryz.f67.body.getD .skip
theorem slices_Clone_uint32_uint32.b_ev (fuel : Nat) (a0 : (List Int)) : evalBody (slices_Clone_uint32_uint32.E) fuel Tryz.f67 slices_Clone_uint32_uint32.C [(.sl tyW)] [.fresh tyW] (a0, ()) =
    slices_Clone_uint32_uint32.b a0 := by kernel_rfl
theorem slices_Clone_uint32_uint32.ev (fuel : Nat) (a0 : (List Int)) : evalBody (slices_Clone_uint32_uint32.E) fuel Tryz.f67 slices_Clone_uint32_uint32.C [(.sl tyW)] [.fresh tyW] (a0, ()) = slices_Clone_uint32_uint32.f fuel a0 :=
  (slices_Clone_uint32_uint32.b_ev fuel a0)
noncomputable def slices_Compact_uint32_uint32.E : Env := envOf Tryz.prog (pick []) (pick []) (pick [(4, [(0, none), (3, none)]), (9, [(0, none), (3, none), (4, none), (5, none)])])
noncomputable def slices_Compact_uint32_uint32.C : Code := Tryz.f54.body.getD .skip
noncomputable def slices_Compact_uint32_uint32.mk0 (a0 : (List Int)) (s : Int) : St := { tmps := slots 61 0 [(0, (.one (.own 1))), (3, (.one (.pure tyI s)))], st := [(0, (.ghost [(.one (.own 1))])), (1, (.row tyW a0))], next := 2 }
noncomputable def slices_Compact_uint32_uint32.mk1 (a0 : (List Int)) (s : Z76) : St := { tmps := slots 61 0 [(0, (.one (.own 1))), (3, (.one (.pure tyI s.1))), (4, (.one (.view 1 1 s.2.1 s.2.2.1))), (5, (.one (.pure tyI s.2.2.2.1)))], st := [(0, (.ghost [(.one (.own 1))])), (1, (.row tyW s.2.2.2.2))], next := 2 }
noncomputable def slices_Compact_uint32_uint32.C0 (fuel : Nat) : Code := codeAt (slices_Compact_uint32_uint32.E) fuel 4 slices_Compact_uint32_uint32.C
noncomputable def slices_Compact_uint32_uint32.K0 (fuel : Nat) (k0 : Z121) : Ex → St → Option ((List Int × Unit) × ((Option (List Int)) × Unit)) := contAt (slices_Compact_uint32_uint32.E) fuel 4 slices_Compact_uint32_uint32.C (endBy (slices_Compact_uint32_uint32.E) [.give tyW] [.fresh tyW] Tryz.f54) k0
theorem slices_Compact_uint32_uint32.b1_ev (fuel : Nat) (k0 : Z121) (k1 : Z121) (a0 : (List Int)) (s : Z76) :
    bodyAt (slices_Compact_uint32_uint32.E) fuel 9 (slices_Compact_uint32_uint32.C0 fuel) (slices_Compact_uint32_uint32.K0 fuel k0) k1 (slices_Compact_uint32_uint32.mk1 a0 s) =
    slices_Compact_uint32_uint32.b1 a0 (fun t => k0 (slices_Compact_uint32_uint32.mk0 a0 t)) (fun t => k1 (slices_Compact_uint32_uint32.mk1 a0 t)) s := by kernel_rfl
theorem slices_Compact_uint32_uint32.l1_ev (fuel : Nat) (k0 : Z121) (a0 : (List Int)) (n : Nat) (s : Z76) :
    loopAt (slices_Compact_uint32_uint32.E) fuel 9 (slices_Compact_uint32_uint32.C0 fuel) (slices_Compact_uint32_uint32.K0 fuel k0) n (slices_Compact_uint32_uint32.mk1 a0 s) = slices_Compact_uint32_uint32.l1 fuel a0 (fun t => k0 (slices_Compact_uint32_uint32.mk0 a0 t)) n s :=
  loop_iter (fun k1 s => (slices_Compact_uint32_uint32.b1_ev fuel k0 k1 a0 s)) n s
theorem slices_Compact_uint32_uint32.b0_ev (fuel : Nat) (k0 : Z121) (a0 : (List Int)) (s : Int) :
    bodyAt (slices_Compact_uint32_uint32.E) fuel 4 slices_Compact_uint32_uint32.C (endBy (slices_Compact_uint32_uint32.E) [.give tyW] [.fresh tyW] Tryz.f54) k0 (slices_Compact_uint32_uint32.mk0 a0 s) =
    slices_Compact_uint32_uint32.b0 a0 (fun t => loopAt (slices_Compact_uint32_uint32.E) fuel 9 (slices_Compact_uint32_uint32.C0 fuel) (slices_Compact_uint32_uint32.K0 fuel k0) fuel (slices_Compact_uint32_uint32.mk1 a0 t)) (fun t => k0 (slices_Compact_uint32_uint32.mk0 a0 t)) s := by kernel_rfl
theorem slices_Compact_uint32_uint32.l0_ev (fuel : Nat) (a0 : (List Int)) (n : Nat) (s : Int) :
    loopAt (slices_Compact_uint32_uint32.E) fuel 4 slices_Compact_uint32_uint32.C (endBy (slices_Compact_uint32_uint32.E) [.give tyW] [.fresh tyW] Tryz.f54) n (slices_Compact_uint32_uint32.mk0 a0 s) = slices_Compact_uint32_uint32.l0 fuel a0 n s :=
  loop_iter (fun k0 s => (slices_Compact_uint32_uint32.b0_ev fuel k0 a0 s).trans (congrFun (congrFun (congrArg (slices_Compact_uint32_uint32.b0 a0) (funext fun t => slices_Compact_uint32_uint32.l1_ev fuel k0 a0 fuel t)) (fun t => k0 (slices_Compact_uint32_uint32.mk0 a0 t))) s)) n s
theorem slices_Compact_uint32_uint32.b_ev (fuel : Nat) (a0 : (List Int)) : evalBy (slices_Compact_uint32_uint32.E) fuel Tryz.f54 slices_Compact_uint32_uint32.C [.give tyW] [.fresh tyW] (some a0, ()) =
    slices_Compact_uint32_uint32.b a0 (fun t => loopAt (slices_Compact_uint32_uint32.E) fuel 4 slices_Compact_uint32_uint32.C (endBy (slices_Compact_uint32_uint32.E) [.give tyW] [.fresh tyW] Tryz.f54) fuel (slices_Compact_uint32_uint32.mk0 a0 t)) := by kernel_rfl
theorem slices_Compact_uint32_uint32.ev (fuel : Nat) (a0 : (List Int)) : evalBy (slices_Compact_uint32_uint32.E) fuel Tryz.f54 slices_Compact_uint32_uint32.C [.give tyW] [.fresh tyW] (some a0, ()) = slices_Compact_uint32_uint32.f fuel a0 :=
  (slices_Compact_uint32_uint32.b_ev fuel a0).trans (congrArg (slices_Compact_uint32_uint32.b a0) (funext fun t => slices_Compact_uint32_uint32.l0_ev fuel a0 fuel t))
noncomputable def slices_CompareFunc_api_Seg_api_Seg_api_Seg_api_Seg.E (c0 : Z77) : Env := envOf Tryz.prog (pick []) (pick [(108, extBy ⟨[.pure tySeg, .pure tySeg], [.pure tyI], c0⟩)]) (pick [(2, [(0, none), (1, none), (2, none), (11, none), (12, none), (13, none)])])
noncomputable def slices_CompareFunc_api_Seg_api_Seg_api_Seg_api_Seg.C : Code := Tryz.f107.body.getD .skip
noncomputable def slices_CompareFunc_api_Seg_api_Seg_api_Seg_api_Seg.mk0 (a0 : (List TSeg)) (a1 : (List TSeg)) (a2 : (Unit)) (s : (Int × Int)) : St := { tmps := slots 39 0 [(0, (.one (.pure (.sl tySeg) a0))), (1, (.one (.pure (.sl tySeg) a1))), (2, (.one (.fn 108 []))), (11, (.one (.pure (.sl tySeg) a0))), (12, (.one (.pure tyI s.1))), (13, (.one (.pure tyI s.2)))], st := [(0, (.ghost [(.one (.pure (.sl tySeg) a0)), (.one (.pure (.sl tySeg) a1)), (.one (.fn 108 []))]))], next := 1 }
theorem slices_CompareFunc_api_Seg_api_Seg_api_Seg_api_Seg.b0_ev (c0 : Z77) (fuel : Nat) (k0 : Z122) (a0 : (List TSeg)) (a1 : (List TSeg)) (a2 : (Unit)) (s : (Int × Int)) :
    bodyAt (slices_CompareFunc_api_Seg_api_Seg_api_Seg_api_Seg.E c0) fuel 2 slices_CompareFunc_api_Seg_api_Seg_api_Seg_api_Seg.C (endBy (slices_CompareFunc_api_Seg_api_Seg_api_Seg_api_Seg.E c0) [.pure (.sl tySeg), .pure (.sl tySeg), .fn 108 []] [.pure tyI] Tryz.f107) k0 (slices_CompareFunc_api_Seg_api_Seg_api_Seg_api_Seg.mk0 a0 a1 a2 s) =
    slices_CompareFunc_api_Seg_api_Seg_api_Seg_api_Seg.b0 c0 a0 a1 a2 (fun t => k0 (slices_CompareFunc_api_Seg_api_Seg_api_Seg_api_Seg.mk0 a0 a1 a2 t)) s := by kernel_rfl
theorem slices_CompareFunc_api_Seg_api_Seg_api_Seg_api_Seg.l0_ev (c0 : Z77) (fuel : Nat) (a0 : (List TSeg)) (a1 : (List TSeg)) (a2 : (Unit)) (n : Nat) (s : (Int × Int)) :
    loopAt (slices_CompareFunc_api_Seg_api_Seg_api_Seg_api_Seg.E c0) fuel 2 slices_CompareFunc_api_Seg_api_Seg_api_Seg_api_Seg.C (endBy (slices_CompareFunc_api_Seg_api_Seg_api_Seg_api_Seg.E c0) [.pure (.sl tySeg), .pure (.sl tySeg), .fn 108 []] [.pure tyI] Tryz.f107) n (slices_CompareFunc_api_Seg_api_Seg_api_Seg_api_Seg.mk0 a0 a1 a2 s) = slices_CompareFunc_api_Seg_api_Seg_api_Seg_api_Seg.l0 c0 fuel a0 a1 a2 n s :=
  loop_iter (fun k0 s => (slices_CompareFunc_api_Seg_api_Seg_api_Seg_api_Seg.b0_ev c0 fuel k0 a0 a1 a2 s)) n s
theorem slices_CompareFunc_api_Seg_api_Seg_api_Seg_api_Seg.b_ev (c0 : Z77) (fuel : Nat) (a0 : (List TSeg)) (a1 : (List TSeg)) (a2 : (Unit)) : evalBy (slices_CompareFunc_api_Seg_api_Seg_api_Seg_api_Seg.E c0) fuel Tryz.f107 slices_CompareFunc_api_Seg_api_Seg_api_Seg_api_Seg.C [.pure (.sl tySeg), .pure (.sl tySeg), .fn 108 []] [.pure tyI] (a0, a1, a2, ()) =
    slices_CompareFunc_api_Seg_api_Seg_api_Seg_api_Seg.b c0 a0 a1 a2 (fun t => loopAt (slices_CompareFunc_api_Seg_api_Seg_api_Seg_api_Seg.E c0) fuel 2 slices_CompareFunc_api_Seg_api_Seg_api_Seg_api_Seg.C (endBy (slices_CompareFunc_api_Seg_api_Seg_api_Seg_api_Seg.E c0) [.pure (.sl tySeg), .pure (.sl tySeg), .fn 108 []] [.pure tyI] Tryz.f107) fuel (slices_CompareFunc_api_Seg_api_Seg_api_Seg_api_Seg.mk0 a0 a1 a2 t)) := by kernel_rfl
theorem slices_CompareFunc_api_Seg_api_Seg_api_Seg_api_Seg.ev (c0 : Z77) (fuel : Nat) (a0 : (List TSeg)) (a1 : (List TSeg)) (a2 : (Unit)) : evalBy (slices_CompareFunc_api_Seg_api_Seg_api_Seg_api_Seg.E c0) fuel Tryz.f107 slices_CompareFunc_api_Seg_api_Seg_api_Seg_api_Seg.C [.pure (.sl tySeg), .pure (.sl tySeg), .fn 108 []] [.pure tyI] (a0, a1, a2, ()) = slices_CompareFunc_api_Seg_api_Seg_api_Seg_api_Seg.f c0 fuel a0 a1 a2 :=
  (slices_CompareFunc_api_Seg_api_Seg_api_Seg_api_Seg.b_ev c0 fuel a0 a1 a2).trans (congrArg (slices_CompareFunc_api_Seg_api_Seg_api_Seg_api_Seg.b c0 a0 a1 a2) (funext fun t => slices_CompareFunc_api_Seg_api_Seg_api_Seg_api_Seg.l0_ev c0 fuel a0 a1 a2 fuel t))
noncomputable def slices_Compare_uint32_uint32.E (c0 : Z67) : Env := envOf Tryz.prog (pick [(89, ⟨[tyW, tyW], [.pure tyI], c0⟩)]) (pick []) (pick [(2, [(0, none), (1, none), (9, none), (10, none), (11, none)])])
noncomputable def slices_Compare_uint32_uint32.C : Code := Tryz.f91.body.getD .skip
noncomputable def slices_Compare_uint32_uint32.mk0 (a0 : (List Int)) (a1 : (List Int)) (s : (Int × Int)) : St := { tmps := slots 36 0 [(0, (.one (.pure (.sl tyW) a0))), (1, (.one (.pure (.sl tyW) a1))), (9, (.one (.pure (.sl tyW) a0))), (10, (.one (.pure tyI s.1))), (11, (.one (.pure tyI s.2)))], st := [], next := 0 }
theorem slices_Compare_uint32_uint32.b0_ev (c0 : Z67) (fuel : Nat) (k0 : St → Option (Int × Unit)) (a0 : (List Int)) (a1 : (List Int)) (s : (Int × Int)) :
    bodyAt (slices_Compare_uint32_uint32.E c0) fuel 2 slices_Compare_uint32_uint32.C (endK (slices_Compare_uint32_uint32.E c0) [.pure tyI] Tryz.f91) k0 (slices_Compare_uint32_uint32.mk0 a0 a1 s) =
    slices_Compare_uint32_uint32.b0 c0 a0 a1 (fun t => k0 (slices_Compare_uint32_uint32.mk0 a0 a1 t)) s := by kernel_rfl
theorem slices_Compare_uint32_uint32.l0_ev (c0 : Z67) (fuel : Nat) (a0 : (List Int)) (a1 : (List Int)) (n : Nat) (s : (Int × Int)) :
    loopAt (slices_Compare_uint32_uint32.E c0) fuel 2 slices_Compare_uint32_uint32.C (endK (slices_Compare_uint32_uint32.E c0) [.pure tyI] Tryz.f91) n (slices_Compare_uint32_uint32.mk0 a0 a1 s) = slices_Compare_uint32_uint32.l0 c0 fuel a0 a1 n s :=
  loop_iter (fun k0 s => (slices_Compare_uint32_uint32.b0_ev c0 fuel k0 a0 a1 s)) n s
theorem slices_Compare_uint32_uint32.b_ev (c0 : Z67) (fuel : Nat) (a0 : (List Int)) (a1 : (List Int)) : evalBody (slices_Compare_uint32_uint32.E c0) fuel Tryz.f91 slices_Compare_uint32_uint32.C [(.sl tyW), (.sl tyW)] [.pure tyI] (a0, a1, ()) =
    slices_Compare_uint32_uint32.b c0 a0 a1 (fun t => loopAt (slices_Compare_uint32_uint32.E c0) fuel 2 slices_Compare_uint32_uint32.C (endK (slices_Compare_uint32_uint32.E c0) [.pure tyI] Tryz.f91) fuel (slices_Compare_uint32_uint32.mk0 a0 a1 t)) := by kernel_rfl
theorem slices_Compare_uint32_uint32.ev (c0 : Z67) (fuel : Nat) (a0 : (List Int)) (a1 : (List Int)) : evalBody (slices_Compare_uint32_uint32.E c0) fuel Tryz.f91 slices_Compare_uint32_uint32.C [(.sl tyW), (.sl tyW)] [.pure tyI] (a0, a1, ()) = slices_Compare_uint32_uint32.f c0 fuel a0 a1 :=
  (slices_Compare_uint32_uint32.b_ev c0 fuel a0 a1).trans (congrArg (slices_Compare_uint32_uint32.b c0 a0 a1) (funext fun t => slices_Compare_uint32_uint32.l0_ev c0 fuel a0 a1 fuel t))
noncomputable def slices_Sort_uint32_uint32.E (c0 : Int × Unit → Option (Int × Unit)) (c1 : Z79) : Env := envOf Tryz.prog (pick [(60, ⟨[tyU64], [.pure tyI], c0⟩)]) (pick [(85, extBy ⟨[.row tyW, .pure tyI, .pure tyI, .pure tyI], [], c1⟩)]) (pick [])
noncomputable def slices_Sort_uint32_uint32.C : Code := Tryz.f69.body.getD .skip
theorem slices_Sort_uint32_uint32.b_ev (c0 : Int × Unit → Option (Int × Unit)) (c1 : Z79) (fuel : Nat) (a0 : (List Int)) : evalBy (slices_Sort_uint32_uint32.E c0 c1) fuel Tryz.f69 slices_Sort_uint32_uint32.C [.row tyW] [] (a0, ()) =
    slices_Sort_uint32_uint32.b c0 c1 a0 := by kernel_rfl
theorem slices_Sort_uint32_uint32.ev (c0 : Int × Unit → Option (Int × Unit)) (c1 : Z79) (fuel : Nat) (a0 : (List Int)) : evalBy (slices_Sort_uint32_uint32.E c0 c1) fuel Tryz.f69 slices_Sort_uint32_uint32.C [.row tyW] [] (a0, ()) = slices_Sort_uint32_uint32.f c0 c1 fuel a0 :=
  (slices_Sort_uint32_uint32.b_ev c0 c1 fuel a0)
noncomputable def slices_Sorted_uint32.E (c1 : Z80) : Env := envOf Tryz.prog (pick []) (pick [(69, extBy ⟨[.row tyW], [], c1⟩), (68, colExt 70 tyW)]) (pick [])
noncomputable def slices_Sorted_uint32.C : Code := Tryz.f55.body.getD .skip
theorem slices_Sorted_uint32.b_ev (c1 : Z80) (fuel : Nat) (a0 : ((List Int) × Unit)) : evalBy (slices_Sorted_uint32.E c1) fuel Tryz.f55 slices_Sorted_uint32.C [.fn 70 [(.sl tyW)]] [.fresh tyW] (a0, ()) =
    slices_Sorted_uint32.b c1 a0 := by kernel_rfl
theorem slices_Sorted_uint32.ev (c1 : Z80) (fuel : Nat) (a0 : ((List Int) × Unit)) : evalBy (slices_Sorted_uint32.E c1) fuel Tryz.f55 slices_Sorted_uint32.C [.fn 70 [(.sl tyW)]] [.fresh tyW] (a0, ()) = slices_Sorted_uint32.f c1 fuel a0 :=
  (slices_Sorted_uint32.b_ev c1 fuel a0)
noncomputable def slices_choosePivotOrdered_uint32.E (c0 : Z81) (c1 : Z82) : Env := envOf Tryz.prog (pick []) (pick [(112, extBy ⟨[.row tyW, .pure tyI, .cell tyI], [.pure tyI], c0⟩), (113, extBy ⟨[.row tyW, .pure tyI, .pure tyI, .pure tyI, .cell tyI], [.pure tyI], c1⟩)]) (pick [])
noncomputable def slices_choosePivotOrdered_uint32.C : Code := Tryz.f100.body.getD .skip
theorem slices_choosePivotOrdered_uint32.b_ev (c0 : Z81) (c1 : Z82) (fuel : Nat) (a0 : (List Int)) (a1 : Int) (a2 : Int) : evalBy (slices_choosePivotOrdered_uint32.E c0 c1) fuel Tryz.f100 slices_choosePivotOrdered_uint32.C [.row tyW, .pure tyI, .pure tyI] [.pure tyI, .pure tyI] (a0, a1, a2, ()) =
    slices_choosePivotOrdered_uint32.b c0 c1 a0 a1 a2 := by kernel_rfl
theorem slices_choosePivotOrdered_uint32.ev (c0 : Z81) (c1 : Z82) (fuel : Nat) (a0 : (List Int)) (a1 : Int) (a2 : Int) : evalBy (slices_choosePivotOrdered_uint32.E c0 c1) fuel Tryz.f100 slices_choosePivotOrdered_uint32.C [.row tyW, .pure tyI, .pure tyI] [.pure tyI, .pure tyI] (a0, a1, a2, ()) = slices_choosePivotOrdered_uint32.f c0 c1 fuel a0 a1 a2 :=
  (slices_choosePivotOrdered_uint32.b_ev c0 c1 fuel a0 a1 a2)
noncomputable def slices_insertionSortOrdered_uint32.E (c0 : Z83) : Env := envOf Tryz.prog (pick [(103, ⟨[tyW, tyW], [.pure tyB], c0⟩)]) (pick []) (pick [(1, [(0, none), (1, none), (2, none), (6, none)]), (4, [(0, none), (1, none), (2, none), (6, none), (7, none)])])
noncomputable def slices_insertionSortOrdered_uint32.C : Code := Tryz.f97.body.getD .skip
noncomputable def slices_insertionSortOrdered_uint32.mk0 (a0 : (List Int)) (a1 : Int) (a2 : Int) (s : Int) : St := { tmps := slots 49 0 [(0, (.one (.own 1))), (1, (.one (.pure tyI a1))), (2, (.one (.pure tyI a2))), (6, (.one (.pure tyI s)))], st := [(0, (.ghost [(.one (.own 1)), (.one (.pure tyI a1)), (.one (.pure tyI a2))])), (1, (.row tyW a0))], next := 2 }
noncomputable def slices_insertionSortOrdered_uint32.mk1 (a0 : (List Int)) (a1 : Int) (a2 : Int) (x0_2 : Int) (s : Unit) : St := { tmps := slots 49 0 [(0, (.one (.own 1))), (1, (.one (.pure tyI a1))), (2, (.one (.pure tyI a2))), (6, (.one (.pure tyI x0_2))), (7, (.one (.pure tyI x0_2)))], st := [(0, (.ghost [(.one (.own 1)), (.one (.pure tyI a1)), (.one (.pure tyI a2))])), (1, (.row tyW a0))], next := 2 }
noncomputable def slices_insertionSortOrdered_uint32.C0 (c0 : Z83) (fuel : Nat) : Code := codeAt (slices_insertionSortOrdered_uint32.E c0) fuel 1 slices_insertionSortOrdered_uint32.C
noncomputable def slices_insertionSortOrdered_uint32.K0 (c0 : Z83) (fuel : Nat) (k0 : Z123) : Ex → St → Option ((Unit) × ((List Int) × Int × Int × Unit)) := contAt (slices_insertionSortOrdered_uint32.E c0) fuel 1 slices_insertionSortOrdered_uint32.C (endBy (slices_insertionSortOrdered_uint32.E c0) [.row tyW, .pure tyI, .pure tyI] [] Tryz.f97) k0
theorem slices_insertionSortOrdered_uint32.b1_ev (c0 : Z83) (fuel : Nat) (k0 : Z123) (k1 : Z123) (a0 : (List Int)) (a1 : Int) (a2 : Int) (x0_2 : Int) (s : Unit) :
    bodyAt (slices_insertionSortOrdered_uint32.E c0) fuel 4 (slices_insertionSortOrdered_uint32.C0 c0 fuel) (slices_insertionSortOrdered_uint32.K0 c0 fuel k0) k1 (slices_insertionSortOrdered_uint32.mk1 a0 a1 a2 x0_2 s) =
    slices_insertionSortOrdered_uint32.b1 c0 a0 a1 a2 x0_2 (fun t => k0 (slices_insertionSortOrdered_uint32.mk0 a0 a1 a2 t)) (fun t => k1 (slices_insertionSortOrdered_uint32.mk1 a0 a1 a2 x0_2 t)) s := by kernel_rfl
theorem slices_insertionSortOrdered_uint32.l1_ev (c0 : Z83) (fuel : Nat) (k0 : Z123) (a0 : (List Int)) (a1 : Int) (a2 : Int) (x0_2 : Int) (n : Nat) (s : Unit) :
    loopAt (slices_insertionSortOrdered_uint32.E c0) fuel 4 (slices_insertionSortOrdered_uint32.C0 c0 fuel) (slices_insertionSortOrdered_uint32.K0 c0 fuel k0) n (slices_insertionSortOrdered_uint32.mk1 a0 a1 a2 x0_2 s) = slices_insertionSortOrdered_uint32.l1 c0 fuel a0 a1 a2 x0_2 (fun t => k0 (slices_insertionSortOrdered_uint32.mk0 a0 a1 a2 t)) n s :=
  loop_iter (fun k1 s => (slices_insertionSortOrdered_uint32.b1_ev c0 fuel k0 k1 a0 a1 a2 x0_2 s)) n s
theorem slices_insertionSortOrdered_uint32.b0_ev (c0 : Z83) (fuel : Nat) (k0 : Z123) (a0 : (List Int)) (a1 : Int) (a2 : Int) (s : Int) :
    bodyAt (slices_insertionSortOrdered_uint32.E c0) fuel 1 slices_insertionSortOrdered_uint32.C (endBy (slices_insertionSortOrdered_uint32.E c0) [.row tyW, .pure tyI, .pure tyI] [] Tryz.f97) k0 (slices_insertionSortOrdered_uint32.mk0 a0 a1 a2 s) =
    slices_insertionSortOrdered_uint32.b0 c0 a0 a1 a2 (fun x0_2 t => loopAt (slices_insertionSortOrdered_uint32.E c0) fuel 4 (slices_insertionSortOrdered_uint32.C0 c0 fuel) (slices_insertionSortOrdered_uint32.K0 c0 fuel k0) fuel (slices_insertionSortOrdered_uint32.mk1 a0 a1 a2 x0_2 t)) (fun t => k0 (slices_insertionSortOrdered_uint32.mk0 a0 a1 a2 t)) s := by kernel_rfl
theorem slices_insertionSortOrdered_uint32.l0_ev (c0 : Z83) (fuel : Nat) (a0 : (List Int)) (a1 : Int) (a2 : Int) (n : Nat) (s : Int) :
    loopAt (slices_insertionSortOrdered_uint32.E c0) fuel 1 slices_insertionSortOrdered_uint32.C (endBy (slices_insertionSortOrdered_uint32.E c0) [.row tyW, .pure tyI, .pure tyI] [] Tryz.f97) n (slices_insertionSortOrdered_uint32.mk0 a0 a1 a2 s) = slices_insertionSortOrdered_uint32.l0 c0 fuel a0 a1 a2 n s :=
  loop_iter (fun k0 s => (slices_insertionSortOrdered_uint32.b0_ev c0 fuel k0 a0 a1 a2 s).trans (congrFun (congrFun (congrArg (slices_insertionSortOrdered_uint32.b0 c0 a0 a1 a2) (funext fun x0_2 => funext fun t => slices_insertionSortOrdered_uint32.l1_ev c0 fuel k0 a0 a1 a2 x0_2 fuel t)) (fun t => k0 (slices_insertionSortOrdered_uint32.mk0 a0 a1 a2 t))) s)) n s
theorem slices_insertionSortOrdered_uint32.b_ev (c0 : Z83) (fuel : Nat) (a0 : (List Int)) (a1 : Int) (a2 : Int) : evalBy (slices_insertionSortOrdered_uint32.E c0) fuel Tryz.f97 slices_insertionSortOrdered_uint32.C [.row tyW, .pure tyI, .pure tyI] [] (a0, a1, a2, ()) =
    slices_insertionSortOrdered_uint32.b c0 a0 a1 a2 (fun t => loopAt (slices_insertionSortOrdered_uint32.E c0) fuel 1 slices_insertionSortOrdered_uint32.C (endBy (slices_insertionSortOrdered_uint32.E c0) [.row tyW, .pure tyI, .pure tyI] [] Tryz.f97) fuel (slices_insertionSortOrdered_uint32.mk0 a0 a1 a2 t)) := by kernel_rfl
theorem slices_insertionSortOrdered_uint32.ev (c0 : Z83) (fuel : Nat) (a0 : (List Int)) (a1 : Int) (a2 : Int) : evalBy (slices_insertionSortOrdered_uint32.E c0) fuel Tryz.f97 slices_insertionSortOrdered_uint32.C [.row tyW, .pure tyI, .pure tyI] [] (a0, a1, a2, ()) = slices_insertionSortOrdered_uint32.f c0 fuel a0 a1 a2 :=
  (slices_insertionSortOrdered_uint32.b_ev c0 fuel a0 a1 a2).trans (congrArg (slices_insertionSortOrdered_uint32.b c0 a0 a1 a2) (funext fun t => slices_insertionSortOrdered_uint32.l0_ev c0 fuel a0 a1 a2 fuel t))
noncomputable def slices_medianAdjacentOrdered_uint32.E (c0 : Z82) : Env := envOf Tryz.prog (pick []) (pick [(113, extBy ⟨[.row tyW, .pure tyI, .pure tyI, .pure tyI, .cell tyI], [.pure tyI], c0⟩)]) (pick [])
noncomputable def slices_medianAdjacentOrdered_uint32.C : Code := Tryz.f112.body.getD .skip
theorem slices_medianAdjacentOrdered_uint32.b_ev (c0 : Z82) (fuel : Nat) (a0 : (List Int)) (a1 : Int) (a2 : Int) : evalBy (slices_medianAdjacentOrdered_uint32.E c0) fuel Tryz.f112 slices_medianAdjacentOrdered_uint32.C [.row tyW, .pure tyI, .cell tyI] [.pure tyI] (a0, a1, a2, ()) =
    slices_medianAdjacentOrdered_uint32.b c0 a0 a1 a2 := by kernel_rfl
theorem slices_medianAdjacentOrdered_uint32.ev (c0 : Z82) (fuel : Nat) (a0 : (List Int)) (a1 : Int) (a2 : Int) : evalBy (slices_medianAdjacentOrdered_uint32.E c0) fuel Tryz.f112 slices_medianAdjacentOrdered_uint32.C [.row tyW, .pure tyI, .cell tyI] [.pure tyI] (a0, a1, a2, ()) = slices_medianAdjacentOrdered_uint32.f c0 fuel a0 a1 a2 :=
  (slices_medianAdjacentOrdered_uint32.b_ev c0 fuel a0 a1 a2)
noncomputable def slices_medianOrdered_uint32.E (c0 : Z87) : Env := envOf Tryz.prog (pick []) (pick [(114, extBy ⟨[.row tyW, .pure tyI, .pure tyI, .cell tyI], [.pure tyI, .pure tyI], c0⟩)]) (pick [])
noncomputable def slices_medianOrdered_uint32.C : Code := Tryz.f113.body.getD .skip
theorem slices_medianOrdered_uint32.b_ev (c0 : Z87) (fuel : Nat) (a0 : (List Int)) (a1 : Int) (a2 : Int) (a3 : Int) (a4 : Int) : evalBy (slices_medianOrdered_uint32.E c0) fuel Tryz.f113 slices_medianOrdered_uint32.C [.row tyW, .pure tyI, .pure tyI, .pure tyI, .cell tyI] [.pure tyI] (a0, a1, a2, a3, a4, ()) =
    slices_medianOrdered_uint32.b c0 a0 a1 a2 a3 a4 := by kernel_rfl
theorem slices_medianOrdered_uint32.ev (c0 : Z87) (fuel : Nat) (a0 : (List Int)) (a1 : Int) (a2 : Int) (a3 : Int) (a4 : Int) : evalBy (slices_medianOrdered_uint32.E c0) fuel Tryz.f113 slices_medianOrdered_uint32.C [.row tyW, .pure tyI, .pure tyI, .pure tyI, .cell tyI] [.pure tyI] (a0, a1, a2, a3, a4, ()) = slices_medianOrdered_uint32.f c0 fuel a0 a1 a2 a3 a4 :=
  (slices_medianOrdered_uint32.b_ev c0 fuel a0 a1 a2 a3 a4)
noncomputable def slices_order2Ordered_uint32.E (c0 : Z83) : Env := envOf Tryz.prog (pick [(103, ⟨[tyW, tyW], [.pure tyB], c0⟩)]) (pick []) (pick [])
noncomputable def slices_order2Ordered_uint32.C : Code := Tryz.f114.body.getD .skip
theorem slices_order2Ordered_uint32.b_ev (c0 : Z83) (fuel : Nat) (a0 : (List Int)) (a1 : Int) (a2 : Int) (a3 : Int) : evalBy (slices_order2Ordered_uint32.E c0) fuel Tryz.f114 slices_order2Ordered_uint32.C [.row tyW, .pure tyI, .pure tyI, .cell tyI] [.pure tyI, .pure tyI] (a0, a1, a2, a3, ()) =
    slices_order2Ordered_uint32.b c0 a0 a1 a2 a3 := by kernel_rfl
theorem slices_order2Ordered_uint32.ev (c0 : Z83) (fuel : Nat) (a0 : (List Int)) (a1 : Int) (a2 : Int) (a3 : Int) : evalBy (slices_order2Ordered_uint32.E c0) fuel Tryz.f114 slices_order2Ordered_uint32.C [.row tyW, .pure tyI, .pure tyI, .cell tyI] [.pure tyI, .pure tyI] (a0, a1, a2, a3, ()) = slices_order2Ordered_uint32.f c0 fuel a0 a1 a2 a3 :=
  (slices_order2Ordered_uint32.b_ev c0 fuel a0 a1 a2 a3)
noncomputable def slices_partialInsertionSortOrdered_uint32.E (c0 : Z83) : Env := envOf Tryz.prog (pick [(103, ⟨[tyW, tyW], [.pure tyB], c0⟩)]) (pick []) (pick [(3, [(0, none), (1, none), (2, none), (7, none), (8, none)]), (5, [(0, none), (1, none), (2, none), (7, none), (8, none)]), (14, [(0, none), (1, none), (2, none), (7, none), (8, none), (9, none)]), (20, [(0, none), (1, none), (2, none), (7, none), (8, none), (10, none)])])
noncomputable def slices_partialInsertionSortOrdered_uint32.C : Code := Tryz.f102.body.getD .skip
noncomputable def slices_partialInsertionSortOrdered_uint32.mk0 (a0 : (List Int)) (a1 : Int) (a2 : Int) (s : (Int × Int)) : St := { tmps := slots 133 0 [(0, (.one (.own 1))), (1, (.one (.pure tyI a1))), (2, (.one (.pure tyI a2))), (7, (.one (.pure tyI s.1))), (8, (.one (.pure tyI s.2)))], st := [(0, (.ghost [(.one (.own 1)), (.one (.pure tyI a1)), (.one (.pure tyI a2))])), (1, (.row tyW a0))], next := 2 }
noncomputable def slices_partialInsertionSortOrdered_uint32.mk1 (a0 : (List Int)) (a1 : Int) (a2 : Int) (x0_3 : Int) (s : Int) : St := { tmps := slots 133 0 [(0, (.one (.own 1))), (1, (.one (.pure tyI a1))), (2, (.one (.pure tyI a2))), (7, (.one (.pure tyI s))), (8, (.one (.pure tyI x0_3)))], st := [(0, (.ghost [(.one (.own 1)), (.one (.pure tyI a1)), (.one (.pure tyI a2))])), (1, (.row tyW a0))], next := 2 }
noncomputable def slices_partialInsertionSortOrdered_uint32.C0 (c0 : Z83) (fuel : Nat) : Code := codeAt (slices_partialInsertionSortOrdered_uint32.E c0) fuel 3 slices_partialInsertionSortOrdered_uint32.C
noncomputable def slices_partialInsertionSortOrdered_uint32.K0 (c0 : Z83) (fuel : Nat) (k0 : Z124) : Ex → St → Option ((Bool × Unit) × ((List Int) × Int × Int × Unit)) := contAt (slices_partialInsertionSortOrdered_uint32.E c0) fuel 3 slices_partialInsertionSortOrdered_uint32.C (endBy (slices_partialInsertionSortOrdered_uint32.E c0) [.row tyW, .pure tyI, .pure tyI] [.pure tyB] Tryz.f102) k0
theorem slices_partialInsertionSortOrdered_uint32.b1_ev (c0 : Z83) (fuel : Nat) (k0 : Z124) (k1 : Z124) (a0 : (List Int)) (a1 : Int) (a2 : Int) (x0_3 : Int) (s : Int) :
    bodyAt (slices_partialInsertionSortOrdered_uint32.E c0) fuel 5 (slices_partialInsertionSortOrdered_uint32.C0 c0 fuel) (slices_partialInsertionSortOrdered_uint32.K0 c0 fuel k0) k1 (slices_partialInsertionSortOrdered_uint32.mk1 a0 a1 a2 x0_3 s) =
    slices_partialInsertionSortOrdered_uint32.b1 c0 a0 a1 a2 x0_3 (fun t => k0 (slices_partialInsertionSortOrdered_uint32.mk0 a0 a1 a2 t)) (fun t => k1 (slices_partialInsertionSortOrdered_uint32.mk1 a0 a1 a2 x0_3 t)) s := by kernel_rfl
theorem slices_partialInsertionSortOrdered_uint32.l1_ev (c0 : Z83) (fuel : Nat) (k0 : Z124) (a0 : (List Int)) (a1 : Int) (a2 : Int) (x0_3 : Int) (n : Nat) (s : Int) :
    loopAt (slices_partialInsertionSortOrdered_uint32.E c0) fuel 5 (slices_partialInsertionSortOrdered_uint32.C0 c0 fuel) (slices_partialInsertionSortOrdered_uint32.K0 c0 fuel k0) n (slices_partialInsertionSortOrdered_uint32.mk1 a0 a1 a2 x0_3 s) = slices_partialInsertionSortOrdered_uint32.l1 c0 fuel a0 a1 a2 x0_3 (fun t => k0 (slices_partialInsertionSortOrdered_uint32.mk0 a0 a1 a2 t)) n s :=
  loop_iter (fun k1 s => (slices_partialInsertionSortOrdered_uint32.b1_ev c0 fuel k0 k1 a0 a1 a2 x0_3 s)) n s
theorem slices_partialInsertionSortOrdered_uint32.b0_ev (c0 : Z83) (fuel : Nat) (k0 : Z124) (a0 : (List Int)) (a1 : Int) (a2 : Int) (s : (Int × Int)) :
    bodyAt (slices_partialInsertionSortOrdered_uint32.E c0) fuel 3 slices_partialInsertionSortOrdered_uint32.C (endBy (slices_partialInsertionSortOrdered_uint32.E c0) [.row tyW, .pure tyI, .pure tyI] [.pure tyB] Tryz.f102) k0 (slices_partialInsertionSortOrdered_uint32.mk0 a0 a1 a2 s) =
    slices_partialInsertionSortOrdered_uint32.b0 c0 a0 a1 a2 (fun x0_3 t => loopAt (slices_partialInsertionSortOrdered_uint32.E c0) fuel 5 (slices_partialInsertionSortOrdered_uint32.C0 c0 fuel) (slices_partialInsertionSortOrdered_uint32.K0 c0 fuel k0) fuel (slices_partialInsertionSortOrdered_uint32.mk1 a0 a1 a2 x0_3 t)) (fun t => k0 (slices_partialInsertionSortOrdered_uint32.mk0 a0 a1 a2 t)) s := by kernel_rfl
theorem slices_partialInsertionSortOrdered_uint32.l0_ev (c0 : Z83) (fuel : Nat) (a0 : (List Int)) (a1 : Int) (a2 : Int) (n : Nat) (s : (Int × Int)) :
    loopAt (slices_partialInsertionSortOrdered_uint32.E c0) fuel 3 slices_partialInsertionSortOrdered_uint32.C (endBy (slices_partialInsertionSortOrdered_uint32.E c0) [.row tyW, .pure tyI, .pure tyI] [.pure tyB] Tryz.f102) n (slices_partialInsertionSortOrdered_uint32.mk0 a0 a1 a2 s) = slices_partialInsertionSortOrdered_uint32.l0 c0 fuel a0 a1 a2 n s :=
  loop_iter (fun k0 s => (slices_partialInsertionSortOrdered_uint32.b0_ev c0 fuel k0 a0 a1 a2 s).trans (congrFun (congrFun (congrArg (slices_partialInsertionSortOrdered_uint32.b0 c0 a0 a1 a2) (funext fun x0_3 => funext fun t => slices_partialInsertionSortOrdered_uint32.l1_ev c0 fuel k0 a0 a1 a2 x0_3 fuel t)) (fun t => k0 (slices_partialInsertionSortOrdered_uint32.mk0 a0 a1 a2 t))) s)) n s
theorem slices_partialInsertionSortOrdered_uint32.b_ev (c0 : Z83) (fuel : Nat) (a0 : (List Int)) (a1 : Int) (a2 : Int) : evalBy (slices_partialInsertionSortOrdered_uint32.E c0) fuel Tryz.f102 slices_partialInsertionSortOrdered_uint32.C [.row tyW, .pure tyI, .pure tyI] [.pure tyB] (a0, a1, a2, ()) =
    slices_partialInsertionSortOrdered_uint32.b c0 a0 a1 a2 (fun t => loopAt (slices_partialInsertionSortOrdered_uint32.E c0) fuel 3 slices_partialInsertionSortOrdered_uint32.C (endBy (slices_partialInsertionSortOrdered_uint32.E c0) [.row tyW, .pure tyI, .pure tyI] [.pure tyB] Tryz.f102) fuel (slices_partialInsertionSortOrdered_uint32.mk0 a0 a1 a2 t)) := by kernel_rfl
theorem slices_partialInsertionSortOrdered_uint32.ev (c0 : Z83) (fuel : Nat) (a0 : (List Int)) (a1 : Int) (a2 : Int) : evalBy (slices_partialInsertionSortOrdered_uint32.E c0) fuel Tryz.f102 slices_partialInsertionSortOrdered_uint32.C [.row tyW, .pure tyI, .pure tyI] [.pure tyB] (a0, a1, a2, ()) = slices_partialInsertionSortOrdered_uint32.f c0 fuel a0 a1 a2 :=
  (slices_partialInsertionSortOrdered_uint32.b_ev c0 fuel a0 a1 a2).trans (congrArg (slices_partialInsertionSortOrdered_uint32.b c0 a0 a1 a2) (funext fun t => slices_partialInsertionSortOrdered_uint32.l0_ev c0 fuel a0 a1 a2 fuel t))
noncomputable def slices_pdqsortOrdered_uint32.E (c0 : Z91) (c1 : Z92) (c2 : Z93) : Env := envOf Tryz.prog (pick []) (pick [(97, extBy ⟨[.row tyW, .pure tyI, .pure tyI], [], c0⟩), (100, extBy ⟨[.row tyW, .pure tyI, .pure tyI], [.pure tyI, .pure tyI], c1⟩), (102, extBy ⟨[.row tyW, .pure tyI, .pure tyI], [.pure tyB], c2⟩)]) (pick [(2, [(0, none), (1, none), (2, none), (3, none), (8, none), (9, none)])])
noncomputable def slices_pdqsortOrdered_uint32.C : Code := Tryz.f85.body.getD .skip
noncomputable def slices_pdqsortOrdered_uint32.mk0 (a0 : (List Int)) (a1 : Int) (a2 : Int) (a3 : Int) (s : (Bool × Bool)) : St := { tmps := slots 134 0 [(0, (.one (.own 1))), (1, (.one (.pure tyI a1))), (2, (.one (.pure tyI a2))), (3, (.one (.pure tyI a3))), (8, (.one (.pure tyB s.1))), (9, (.one (.pure tyB s.2)))], st := [(0, (.ghost [(.one (.own 1)), (.one (.pure tyI a1)), (.one (.pure tyI a2)), (.one (.pure tyI a3))])), (1, (.row tyW a0))], next := 2 }
theorem slices_pdqsortOrdered_uint32.b0_ev (c0 : Z91) (c1 : Z92) (c2 : Z93) (fuel : Nat) (k0 : Z125) (a0 : (List Int)) (a1 : Int) (a2 : Int) (a3 : Int) (s : (Bool × Bool)) :
    bodyAt (slices_pdqsortOrdered_uint32.E c0 c1 c2) fuel 2 slices_pdqsortOrdered_uint32.C (endBy (slices_pdqsortOrdered_uint32.E c0 c1 c2) [.row tyW, .pure tyI, .pure tyI, .pure tyI] [] Tryz.f85) k0 (slices_pdqsortOrdered_uint32.mk0 a0 a1 a2 a3 s) =
    slices_pdqsortOrdered_uint32.b0 c0 c1 c2 a0 a1 a2 a3 (fun t => k0 (slices_pdqsortOrdered_uint32.mk0 a0 a1 a2 a3 t)) s := by kernel_rfl
theorem slices_pdqsortOrdered_uint32.l0_ev (c0 : Z91) (c1 : Z92) (c2 : Z93) (fuel : Nat) (a0 : (List Int)) (a1 : Int) (a2 : Int) (a3 : Int) (n : Nat) (s : (Bool × Bool)) :
    loopAt (slices_pdqsortOrdered_uint32.E c0 c1 c2) fuel 2 slices_pdqsortOrdered_uint32.C (endBy (slices_pdqsortOrdered_uint32.E c0 c1 c2) [.row tyW, .pure tyI, .pure tyI, .pure tyI] [] Tryz.f85) n (slices_pdqsortOrdered_uint32.mk0 a0 a1 a2 a3 s) = slices_pdqsortOrdered_uint32.l0 c0 c1 c2 fuel a0 a1 a2 a3 n s :=
  loop_iter (fun k0 s => (slices_pdqsortOrdered_uint32.b0_ev c0 c1 c2 fuel k0 a0 a1 a2 a3 s)) n s
theorem slices_pdqsortOrdered_uint32.b_ev (c0 : Z91) (c1 : Z92) (c2 : Z93) (fuel : Nat) (a0 : (List Int)) (a1 : Int) (a2 : Int) (a3 : Int) : evalBy (slices_pdqsortOrdered_uint32.E c0 c1 c2) fuel Tryz.f85 slices_pdqsortOrdered_uint32.C [.row tyW, .pure tyI, .pure tyI, .pure tyI] [] (a0, a1, a2, a3, ()) =
    slices_pdqsortOrdered_uint32.b c0 c1 c2 a0 a1 a2 a3 (fun t => loopAt (slices_pdqsortOrdered_uint32.E c0 c1 c2) fuel 2 slices_pdqsortOrdered_uint32.C (endBy (slices_pdqsortOrdered_uint32.E c0 c1 c2) [.row tyW, .pure tyI, .pure tyI, .pure tyI] [] Tryz.f85) fuel (slices_pdqsortOrdered_uint32.mk0 a0 a1 a2 a3 t)) := by kernel_rfl
theorem slices_pdqsortOrdered_uint32.ev (c0 : Z91) (c1 : Z92) (c2 : Z93) (fuel : Nat) (a0 : (List Int)) (a1 : Int) (a2 : Int) (a3 : Int) : evalBy (slices_pdqsortOrdered_uint32.E c0 c1 c2) fuel Tryz.f85 slices_pdqsortOrdered_uint32.C [.row tyW, .pure tyI, .pure tyI, .pure tyI] [] (a0, a1, a2, a3, ()) = slices_pdqsortOrdered_uint32.f c0 c1 c2 fuel a0 a1 a2 a3 :=
  (slices_pdqsortOrdered_uint32.b_ev c0 c1 c2 fuel a0 a1 a2 a3).trans (congrArg (slices_pdqsortOrdered_uint32.b c0 c1 c2 a0 a1 a2 a3) (funext fun t => slices_pdqsortOrdered_uint32.l0_ev c0 c1 c2 fuel a0 a1 a2 a3 fuel t))
end BE
end
section
set_option linter.unusedVariables false
set_option maxRecDepth 100000
namespace BE
open Go Go.Ev Go.Proofs Go.Shelf Go.RowKit
def l35_ren : Go.Shelf.Ren := ⟨fun | 6 => 35 | 15 => 60 | 14 => 59 | 28 => 80 | 29 => 81 | 20 => 72 | 21 => 73 | 22 => 74 | 23 => 75 | 24 => 76 | 25 => 77 | 26 => 78 | 27 => 79 | 46 => 92 | 47 => 93 | 48 => 94 | 49 => 95 | 50 => 96 | 57 => 110 | n => n, fun | 22 => 43 | 24 => 27 | 25 => 73 | 3 => 3 | 39 => 66 | 0 => 0 | 53 => 25 | 55 => 110 | 4 => 4 | 46 => 102 | 45 => 101 | 50 => 106 | 5 => 5 | 9 => 9 | 66 => 118 | 70 => 122 | 76 => 134 | 77 => 135 | n => n, fun | n => n⟩
theorem l35 : Go.Proofs.SlLaysF0.n6 Tryz.prog l35_ren := {
  mixed := by kernel_rfl
  f6 := ⟨Tryz.f35.name, by decide, Tryz.func35.trans (congrArg some (by kernel_rfl))⟩
  f14 := ⟨Tryz.f59.name, by decide, Tryz.func59.trans (congrArg some (by kernel_rfl))⟩
  f15 := Tryz.func60.trans (congrArg some (by kernel_rfl))
  f20 := ⟨Tryz.f72.name, by decide, Tryz.func72.trans (congrArg some (by kernel_rfl))⟩
  f21 := ⟨Tryz.f73.name, by decide, Tryz.func73.trans (congrArg some (by kernel_rfl))⟩
  f22 := ⟨Tryz.f74.name, by decide, Tryz.func74.trans (congrArg some (by kernel_rfl))⟩
  f23 := ⟨Tryz.f75.name, by decide, Tryz.func75.trans (congrArg some (by kernel_rfl))⟩
  f24 := ⟨Tryz.f76.name, by decide, Tryz.func76.trans (congrArg some (by kernel_rfl))⟩
  f25 := ⟨Tryz.f77.name, by decide, Tryz.func77.trans (congrArg some (by kernel_rfl))⟩
  f26 := ⟨Tryz.f78.name, by decide, Tryz.func78.trans (congrArg some (by kernel_rfl))⟩
  f27 := ⟨Tryz.f79.name, by decide, Tryz.func79.trans (congrArg some (by kernel_rfl))⟩
  f28 := Tryz.func80.trans (congrArg some (by kernel_rfl))
  f29 := Tryz.func81.trans (congrArg some (by kernel_rfl))
  f46 := ⟨Tryz.f92.name, by decide, Tryz.func92.trans (congrArg some (by kernel_rfl))⟩
  f47 := Tryz.func93.trans (congrArg some (by kernel_rfl))
  f48 := Tryz.func94.trans (congrArg some (by kernel_rfl))
  f49 := ⟨Tryz.f95.name, by decide, Tryz.func95.trans (congrArg some (by kernel_rfl))⟩
  f50 := ⟨Tryz.f96.name, by decide, Tryz.func96.trans (congrArg some (by kernel_rfl))⟩
  f57 := ⟨Tryz.f110.name, by decide, Tryz.func110.trans (congrArg some (by kernel_rfl))⟩
  t0 := Tryz.underlying0
  a0 := Tryz.isAgg0
  z0 := Tryz.sizeOf0
  v0 := Tryz.zeroValue0
  t3 := Tryz.underlying3
  a3 := Tryz.isAgg3
  z3 := Tryz.sizeOf3
  v3 := Tryz.zeroValue3
  t4 := Tryz.underlying4
  a4 := Tryz.isAgg4
  z4 := Tryz.sizeOf4
  v4 := Tryz.zeroValue4
  t5 := Tryz.underlying5
  a5 := Tryz.isAgg5
  z5 := Tryz.sizeOf5
  v5 := Tryz.zeroValue5
  t9 := Tryz.underlying9
  a9 := Tryz.isAgg9
  z9 := Tryz.sizeOf9
  v9 := Tryz.zeroValue9
  t22 := Tryz.underlying43
  a22 := Tryz.isAgg43
  z22 := Tryz.sizeOf43
  v22 := Tryz.zeroValue43
  t25 := Tryz.underlying73
  a25 := Tryz.isAgg73
  z25 := Tryz.sizeOf73
  v25 := Tryz.zeroValue73
  t39 := Tryz.underlying66
  a39 := Tryz.isAgg66
  z39 := Tryz.sizeOf66
  v39 := Tryz.zeroValue66
  t45 := Tryz.underlying101
  a45 := Tryz.isAgg101
  z45 := Tryz.sizeOf101
  v45 := Tryz.zeroValue101
  t46 := Tryz.underlying102
  a46 := Tryz.isAgg102
  z46 := Tryz.sizeOf102
  v46 := Tryz.zeroValue102
  t50 := Tryz.underlying106
  a50 := Tryz.isAgg106
  z50 := Tryz.sizeOf106
  v50 := Tryz.zeroValue106
  t53 := Tryz.underlying25
  a53 := Tryz.isAgg25
  z53 := Tryz.sizeOf25
  v53 := Tryz.zeroValue25
  t55 := Tryz.underlying110
  a55 := Tryz.isAgg110
  z55 := Tryz.sizeOf110
  v55 := Tryz.zeroValue110
  t66 := Tryz.underlying118
  a66 := Tryz.isAgg118
  z66 := Tryz.sizeOf118
  v66 := Tryz.zeroValue118
  t70 := Tryz.underlying122
  a70 := Tryz.isAgg122
  z70 := Tryz.sizeOf122
  v70 := Tryz.zeroValue122
  t76 := Tryz.underlying134
  a76 := Tryz.isAgg134
  z76 := Tryz.sizeOf134
  v76 := Tryz.zeroValue134
  t77 := Tryz.underlying135
  a77 := Tryz.isAgg135
  z77 := Tryz.sizeOf135
  v77 := Tryz.zeroValue135 }
theorem mix : Tryz.prog.follows .mixedOrders = true := by kernel_rfl
noncomputable def addr_Mask.sp : Ev.Spec := ⟨[tyI], [.pure tyW], fun x => addr_Mask.f FU x.1⟩
noncomputable abbrev addr_Mask.F := addr_Mask.sp.F
theorem addr_Mask.ent : Entered Tryz.prog 49 := entered_of Tryz.func49 (by kernel_rfl) (c := addr_Mask.C) (by kernel_rfl)
theorem addr_Mask.ok {tr : Bool} : Pure tr Tryz.prog 49 addr_Mask.sp := pure_of_eval (E := addr_Mask.E) (envOf_ok _ _ _ (pick_ok (fun _ h => absurd h List.not_mem_nil)) (pick_ext (fun _ h => absurd h List.not_mem_nil))) mix Tryz.func49 (c := addr_Mask.C) (by kernel_rfl) fun ⟨a0, ()⟩ _ h => ⟨FU, (addr_Mask.ev FU a0).trans h⟩
noncomputable def addr_Right.sp : Ev.Spec := ⟨[tyPrefix], [.pure tyB], fun x => addr_Right.f addr_Mask.F FU x.1⟩
noncomputable abbrev addr_Right.F := addr_Right.sp.F
theorem addr_Right.ent : Entered Tryz.prog 27 := entered_of Tryz.func27 (by kernel_rfl) (c := addr_Right.C) (by kernel_rfl)
theorem addr_Right.ok {tr : Bool} : Pure tr Tryz.prog 27 addr_Right.sp := pure_of_eval (E := addr_Right.E addr_Mask.F) (envOf_ok _ _ _ (pick_ok (List.forall_mem_cons.2 ⟨⟨addr_Mask.ent, addr_Mask.ok⟩, (fun _ h => absurd h List.not_mem_nil)⟩)) (pick_ext (fun _ h => absurd h List.not_mem_nil))) mix Tryz.func27 (c := addr_Right.C) (by kernel_rfl) fun ⟨a0, ()⟩ _ h => ⟨FU, (addr_Right.ev addr_Mask.F FU a0).trans h⟩
noncomputable def addr_Less.sp : Ev.Spec := ⟨[tyPrefix, tyPrefix], [.pure tyB], fun x => addr_Less.f addr_Right.F FU x.1 x.2.1⟩
noncomputable abbrev addr_Less.F := addr_Less.sp.F
theorem addr_Less.ent : Entered Tryz.prog 61 := entered_of Tryz.func61 (by kernel_rfl) (c := addr_Less.C) (by kernel_rfl)
theorem addr_Less.ok {tr : Bool} : Pure tr Tryz.prog 61 addr_Less.sp := pure_of_eval (E := addr_Less.E addr_Right.F) (envOf_ok _ _ _ (pick_ok (List.forall_mem_cons.2 ⟨⟨addr_Right.ent, addr_Right.ok⟩, (fun _ h => absurd h List.not_mem_nil)⟩)) (pick_ext (fun _ h => absurd h List.not_mem_nil))) mix Tryz.func61 (c := addr_Less.C) (by kernel_rfl) fun ⟨a0, a1, ()⟩ _ h => ⟨FU, (addr_Less.ev addr_Right.F FU a0 a1).trans h⟩
noncomputable def addr_Cmp.sp : Ev.Spec := ⟨[tyPrefix, tyPrefix], [.pure tyI], fun x => addr_Cmp.f addr_Less.F FU x.1 x.2.1⟩
noncomputable abbrev addr_Cmp.F := addr_Cmp.sp.F
theorem addr_Cmp.ent : Entered Tryz.prog 36 := entered_of Tryz.func36 (by kernel_rfl) (c := addr_Cmp.C) (by kernel_rfl)
theorem addr_Cmp.ok {tr : Bool} : Pure tr Tryz.prog 36 addr_Cmp.sp := pure_of_eval (E := addr_Cmp.E addr_Less.F) (envOf_ok _ _ _ (pick_ok (List.forall_mem_cons.2 ⟨⟨addr_Less.ent, addr_Less.ok⟩, (fun _ h => absurd h List.not_mem_nil)⟩)) (pick_ext (fun _ h => absurd h List.not_mem_nil))) mix Tryz.func36 (c := addr_Cmp.C) (by kernel_rfl) fun ⟨a0, a1, ()⟩ _ h => ⟨FU, (addr_Cmp.ev addr_Less.F FU a0 a1).trans h⟩
noncomputable def Ref1_Mask.sp : Ev.Spec := ⟨[tyI], [.pure tyW], fun x => Ref1_Mask.f FU x.1⟩
noncomputable abbrev Ref1_Mask.F := Ref1_Mask.sp.F
theorem Ref1_Mask.ent : Entered Tryz.prog 43 := entered_of Tryz.func43 (by kernel_rfl) (c := Ref1_Mask.C) (by kernel_rfl)
theorem Ref1_Mask.ok {tr : Bool} : Pure tr Tryz.prog 43 Ref1_Mask.sp := pure_of_eval (E := Ref1_Mask.E) (envOf_ok _ _ _ (pick_ok (fun _ h => absurd h List.not_mem_nil)) (pick_ext (fun _ h => absurd h List.not_mem_nil))) mix Tryz.func43 (c := Ref1_Mask.C) (by kernel_rfl) fun ⟨a0, ()⟩ _ h => ⟨FU, (Ref1_Mask.ev FU a0).trans h⟩
noncomputable def Ref1_Right.sp : Ev.Spec := ⟨[tyPrefix], [.pure tyB], fun x => Ref1_Right.f Ref1_Mask.F FU x.1⟩
noncomputable abbrev Ref1_Right.F := Ref1_Right.sp.F
theorem Ref1_Right.ent : Entered Tryz.prog 22 := entered_of Tryz.func22 (by kernel_rfl) (c := Ref1_Right.C) (by kernel_rfl)
theorem Ref1_Right.ok {tr : Bool} : Pure tr Tryz.prog 22 Ref1_Right.sp := pure_of_eval (E := Ref1_Right.E Ref1_Mask.F) (envOf_ok _ _ _ (pick_ok (List.forall_mem_cons.2 ⟨⟨Ref1_Mask.ent, Ref1_Mask.ok⟩, (fun _ h => absurd h List.not_mem_nil)⟩)) (pick_ext (fun _ h => absurd h List.not_mem_nil))) mix Tryz.func22 (c := Ref1_Right.C) (by kernel_rfl) fun ⟨a0, ()⟩ _ h => ⟨FU, (Ref1_Right.ev Ref1_Mask.F FU a0).trans h⟩
noncomputable def Ref1_Less.sp : Ev.Spec := ⟨[tyPrefix, tyPrefix], [.pure tyB], fun x => Ref1_Less.f Ref1_Right.F FU x.1 x.2.1⟩
noncomputable abbrev Ref1_Less.F := Ref1_Less.sp.F
theorem Ref1_Less.ent : Entered Tryz.prog 46 := entered_of Tryz.func46 (by kernel_rfl) (c := Ref1_Less.C) (by kernel_rfl)
theorem Ref1_Less.ok {tr : Bool} : Pure tr Tryz.prog 46 Ref1_Less.sp := pure_of_eval (E := Ref1_Less.E Ref1_Right.F) (envOf_ok _ _ _ (pick_ok (List.forall_mem_cons.2 ⟨⟨Ref1_Right.ent, Ref1_Right.ok⟩, (fun _ h => absurd h List.not_mem_nil)⟩)) (pick_ext (fun _ h => absurd h List.not_mem_nil))) mix Tryz.func46 (c := Ref1_Less.C) (by kernel_rfl) fun ⟨a0, a1, ()⟩ _ h => ⟨FU, (Ref1_Less.ev Ref1_Right.F FU a0 a1).trans h⟩
noncomputable def Ref1_Of.sp : Ev.Spec := ⟨[tyW, tyI], [.pure tyPrefix], fun x => Ref1_Of.f Ref1_Mask.F FU x.1 x.2.1⟩
noncomputable abbrev Ref1_Of.F := Ref1_Of.sp.F
theorem Ref1_Of.ent : Entered Tryz.prog 57 := entered_of Tryz.func57 (by kernel_rfl) (c := Ref1_Of.C) (by kernel_rfl)
theorem Ref1_Of.ok {tr : Bool} : Pure tr Tryz.prog 57 Ref1_Of.sp := pure_of_eval (E := Ref1_Of.E Ref1_Mask.F) (envOf_ok _ _ _ (pick_ok (List.forall_mem_cons.2 ⟨⟨Ref1_Mask.ent, Ref1_Mask.ok⟩, (fun _ h => absurd h List.not_mem_nil)⟩)) (pick_ext (fun _ h => absurd h List.not_mem_nil))) mix Tryz.func57 (c := Ref1_Of.C) (by kernel_rfl) fun ⟨a0, a1, ()⟩ _ h => ⟨FU, (Ref1_Of.ev Ref1_Mask.F FU a0 a1).trans h⟩
end BE
end
section
set_option linter.unusedVariables false
set_option linter.unusedSimpArgs false
namespace BE
open Go Go.Ev
theorem iterN_eq {σ R : Type} {B : (σ → Option R) → σ → Option R} {F : σ → Option R} (Inv : σ → Prop) (m : σ → Nat)
    (h : ∀ s k, Inv s → (∀ s', Inv s' → m s' < m s → k s' = F s') → B k s = F s) : ∀ n s, Inv s → m s < n → iterN B n s = F s
  | 0, s, _, hn => absurd hn (Nat.not_lt_zero _)
  | n + 1, s, hi, hn => h s (iterN B n) hi fun s' hi' hm => iterN_eq Inv m h n s' hi' (by omega)
theorem wrap_id {x : Int} (h0 : -9223372036854775808 ≤ x) (h1 : x < 9223372036854775808) : wI x = x := by
  unfold wI
  rw [IntKind.wrap_i64]
  omega
theorem wrap_succ {i n : Nat} (h : i < n) (hn : n < 4611686018427387904) : wI ((i : Int) + 1) = ((i + 1 : Nat) : Int) := by
  rw [wrap_id] <;> omega
theorem wrap_pred {i n : Nat} (h0 : 0 < i) (h : i ≤ n) (hn : n < 4611686018427387904) : wI ((i : Int) - 1) = ((i - 1 : Nat) : Int) := by
  rw [wrap_id] <;> omega
theorem wrap_u32 {x : Int} (h0 : 0 ≤ x) (h1 : x < 4294967296) : IntKind.u32.wrap x = x := by
  show x % (2 ^ 32 : Nat) = x
  omega
theorem FU_lt {n : Nat} (h : n < 4611686018427387904) : n < FU := by
  rw [FU_eq]
  omega
def maskV (n : Int) : Int := 4294967296 - 2 ^ (32 - n.toNat)
theorem FU_more : ∃ m, FU = m + 100 := ⟨FU - 100, by rw [FU_eq]⟩
theorem mask1 : ∀ n : Nat, n ≤ 32 → addr_Mask.F ((n : Int), ()) = some (maskV n, ()) := by
  have : ∀ n : Fin 33, addr_Mask.b ((n.val : Nat) : Int) = some (maskV (n.val : Nat), ()) := by decide
  exact fun n h => this ⟨n, by omega⟩
theorem mask_step : ∀ i : Fin 32, IntKind.u32.wrap (↑(BitVec.ofInt IntKind.u32.bits (maskV (i.val : Nat)) ||| BitVec.ofInt IntKind.u32.bits (IntKind.u32.wrap ((1 : Int) * (2 : Int) ^ min (IntKind.u64.wrap (wI ((31 : Int) - (i.val : Nat)))).toNat IntKind.u32.bits))).toNat : Int) = maskV ((i.val + 1 : Nat) : Int) ∧
    decide ((0 : Int) ≤ IntKind.u64.wrap (wI ((31 : Int) - (i.val : Nat)))) = true := by decide
theorem mask2 (n : Nat) (h : n ≤ 32) : Ref1_Mask.F ((n : Int), ()) = some (maskV n, ()) := by
  show iterN (fun k0 s => Ref1_Mask.b0 (n : Int) k0 s) FU (0, 0) = _
  refine iterN_eq (F := fun _ => some (maskV n, ())) (fun s : Int × Int => ∃ i : Nat, i ≤ n ∧ s = (maskV i, (i : Int))) (fun s => n - s.2.toNat) ?_ FU (0, 0) ⟨0, Nat.zero_le _, by decide⟩ (FU_lt (by simp; omega))
  rintro s k ⟨i, hi, rfl⟩ hk
  unfold Ref1_Mask.b0
  simp only
  by_cases hlt : i < n
  · obtain ⟨e1, e2⟩ := mask_step ⟨i, by omega⟩
    rw [decide_eq_true (show (i : Int) < n by omega), decide_eq_true (show (i : Int) < 32 by omega), e2]
    simp only [cond_true]
    rw [show wI ((i : Int) + 1) = ((i + 1 : Nat) : Int) from wrap_succ (n := 32) (by omega) (by omega)]
    exact hk _ ⟨i + 1, hlt, Prod.ext e1 rfl⟩ (by simp; omega)
  · have : i = n := by omega
    subst this
    rw [decide_eq_false (show ¬ (i : Int) < i by omega)]
    rfl
theorem and_parts (x m : BitVec 32) : (x &&& m).toNat + (x &&& ~~~m).toNat = x.toNat := by
  have hd : (x &&& m) &&& (x &&& ~~~m) = 0#32 := by
    apply BitVec.eq_of_getElem_eq
    intro i hi
    simp only [BitVec.getElem_and, BitVec.getElem_not, BitVec.getElem_zero]
    cases x[i] <;> cases m[i] <;> rfl
  have ho : (x &&& m) ||| (x &&& ~~~m) = x := by
    apply BitVec.eq_of_getElem_eq
    intro i hi
    simp only [BitVec.getElem_and, BitVec.getElem_not, BitVec.getElem_or]
    cases x[i] <;> cases m[i] <;> rfl
  rw [← BitVec.toNat_add_of_and_eq_zero hd, BitVec.add_eq_or_of_and_eq_zero _ _ hd, ho]
theorem bits_lo {a : Int} (h0 : 0 ≤ a) (h1 : a < 4294967296) (k : Nat) (hk : k ≤ 32) :
    IntKind.u32.wrap (↑(BitVec.ofInt IntKind.u32.bits a &&& ~~~BitVec.ofInt IntKind.u32.bits (4294967296 - 2 ^ k)).toNat : Int) = a % 2 ^ k ∧
    IntKind.u32.wrap (↑(BitVec.ofInt IntKind.u32.bits a &&& BitVec.ofInt IntKind.u32.bits (4294967296 - 2 ^ k)).toNat : Int) = a - a % 2 ^ k := by
  obtain ⟨n, rfl⟩ := Int.eq_ofNat_of_zero_le h0
  have hn : n < 2 ^ 32 := by omega
  have hp : (2 : Nat) ^ k ≤ 2 ^ 32 := Nat.pow_le_pow_right (by omega) hk
  have hpos : 0 < 2 ^ k := Nat.two_pow_pos k
  have e0 : (BitVec.ofInt 32 ((n : Nat) : Int)).toNat = n := by rw [BitVec.ofInt_natCast, BitVec.toNat_ofNat]; exact Nat.mod_eq_of_lt hn
  have em : (BitVec.ofInt 32 (4294967296 - 2 ^ k)).toNat = (2 ^ 32 - 2 ^ k) % 2 ^ 32 := by
    rw [show (4294967296 - 2 ^ k : Int) = ((2 ^ 32 - 2 ^ k : Nat) : Int) by rw [Int.ofNat_sub hp]; simp, BitVec.ofInt_natCast, BitVec.toNat_ofNat]
  have hlow : n &&& (2 ^ k - 1) = n % 2 ^ k := Nat.and_two_pow_sub_one_eq_mod n k
  have hcast : ((n : Int) % 2 ^ k) = ((n % 2 ^ k : Nat) : Int) := by simp
  have hle := Nat.mod_le n (2 ^ k)
  have hnm : (~~~BitVec.ofInt 32 (4294967296 - 2 ^ k)).toNat = 2 ^ k - 1 := by
    rw [BitVec.toNat_not, em, Nat.mod_eq_of_lt (by omega)]
    omega
  have h1 : (BitVec.ofInt 32 ((n : Nat) : Int) &&& ~~~BitVec.ofInt 32 (4294967296 - 2 ^ k)).toNat = n % 2 ^ k := by
    rw [BitVec.toNat_and, e0, hnm, hlow]
  have h2 : (BitVec.ofInt 32 ((n : Nat) : Int) &&& BitVec.ofInt 32 (4294967296 - 2 ^ k)).toNat = n - n % 2 ^ k := by
    have hsum := and_parts (BitVec.ofInt 32 ((n : Nat) : Int)) (BitVec.ofInt 32 (4294967296 - 2 ^ k))
    rw [e0] at hsum
    omega
  constructor
  · show IntKind.u32.wrap (((BitVec.ofInt 32 ((n : Nat) : Int) &&& ~~~BitVec.ofInt 32 (4294967296 - 2 ^ k)).toNat : Nat) : Int) = _
    rw [h1, hcast, wrap_u32 (by omega) (by omega)]
  · show IntKind.u32.wrap (((BitVec.ofInt 32 ((n : Nat) : Int) &&& BitVec.ofInt 32 (4294967296 - 2 ^ k)).toNat : Nat) : Int) = _
    rw [h2, hcast, wrap_u32 (by omega) (by omega)]
    omega
def rightB (p : TPrefix) : Bool := decide (0 ≤ p.2) && (decide (p.2 ≤ 32) && (p.1 % 2 ^ (32 - p.2.toNat) == 0))
theorem rightB_iff {p : TPrefix} (h0 : 0 ≤ p.1) (h1 : p.1 < 4294967296) : rightB p = true ↔ prefOk p := by
  unfold rightB prefOk
  simp only [Bool.and_eq_true, decide_eq_true_eq, beq_iff_eq]
  constructor
  · rintro ⟨a, b, c⟩
    exact ⟨h0, h1, a, b, c⟩
  · rintro ⟨_, _, a, b, c⟩
    exact ⟨a, b, c⟩
theorem right_b {c0 : Int × Unit → Option (Int × Unit)} (hc : ∀ n : Nat, n ≤ 32 → c0 ((n : Int), ()) = some (maskV n, ())) {p : TPrefix} (h0 : 0 ≤ p.1) (h1 : p.1 < 4294967296) : addr_Right.b c0 p = some (rightB p, ()) := by
  unfold addr_Right.b rightB
  by_cases a : p.2 < 0
  · rw [decide_eq_false (show ¬ p.2 ≥ 0 by omega)]
    rfl
  · by_cases b : p.2 ≤ 32
    · obtain ⟨n, hn⟩ := Int.eq_ofNat_of_zero_le (show 0 ≤ p.2 by omega)
      rw [hn] at b ⊢
      rw [decide_eq_true (show (n : Int) ≥ 0 by omega), decide_eq_true b, hc n (by omega)]
      simp only [cond_true, Option.bind_some, Bool.true_and]
      have := (bits_lo h0 h1 (32 - n) (by omega)).1
      unfold maskV
      rw [Int.toNat_natCast, this]
    · rw [decide_eq_true (show p.2 ≥ 0 by omega), decide_eq_false b]
      simp
theorem right_eq {p : TPrefix} (h0 : 0 ≤ p.1) (h1 : p.1 < 4294967296) : addr_Right.F (p, ()) = some (rightB p, ()) ∧ Ref1_Right.F (p, ()) = some (rightB p, ()) :=
  ⟨right_b mask1 h0 h1, right_b mask2 h0 h1⟩
theorem less_b {c0 : TPrefix × Unit → Option (Bool × Unit)} (hc : ∀ p : TPrefix, prefOk p → c0 (p, ()) = some (true, ())) {p q : TPrefix} (hp : prefOk p) (hq : prefOk q) : addr_Less.b c0 p q = some (prefLt p q, ()) := by
  unfold addr_Less.b prefLt
  rw [hc p hp, hc q hq]
  simp only [Option.bind_some, Bool.not_true, cond_false]
  by_cases a : p.1 < q.1
  · rw [decide_eq_true a]
    rfl
  · rw [decide_eq_false a]
    by_cases b : p.1 = q.1
    · rw [decide_eq_true b, show (p.1 == q.1) = true from beq_iff_eq.2 b]
      simp
    · rw [decide_eq_false b, show (p.1 == q.1) = false from beq_eq_false_iff_ne.2 b]
      simp
theorem right_ok {p : TPrefix} (hp : prefOk p) : addr_Right.F (p, ()) = some (true, ()) ∧ Ref1_Right.F (p, ()) = some (true, ()) := by
  have := right_eq (p := p) hp.1 hp.2.1
  rw [(rightB_iff hp.1 hp.2.1).2 hp] at this
  exact this
theorem less_eq {p q : TPrefix} (hp : prefOk p) (hq : prefOk q) : addr_Less.F (p, q, ()) = some (prefLt p q, ()) ∧ Ref1_Less.F (p, q, ()) = some (prefLt p q, ()) :=
  ⟨less_b (fun p h => (right_ok h).1) hp hq, less_b (fun p h => (right_ok h).2) hp hq⟩
theorem cmp_eq {p q : TPrefix} (hp : prefOk p) (hq : prefOk q) : ∃ r : Int, addr_Cmp.F (p, q, ()) = some (r, ()) ∧ (r < 0 ↔ prefLt p q = true) := by
  show ∃ r : Int, addr_Cmp.b addr_Less.F p q = some (r, ()) ∧ (r < 0 ↔ prefLt p q = true)
  unfold addr_Cmp.b
  rw [(less_eq hp hq).1, (less_eq hq hp).1]
  simp only [Option.bind_some]
  cases prefLt p q with
  | true => exact ⟨_, rfl, by simp⟩
  | false =>
    cases prefLt q p with
    | true => exact ⟨_, rfl, by simp⟩
    | false => exact ⟨_, rfl, by simp⟩
theorem of_eq {a : Int} {n : Nat} (h0 : 0 ≤ a) (h1 : a < 4294967296) (hn : n ≤ 32) : ∃ p, Ref1_Of.F (a, (n : Int), ()) = some (p, ()) ∧ prefOk p := by
  show ∃ p, Ref1_Of.b Ref1_Mask.F a n = some (p, ()) ∧ prefOk p
  unfold Ref1_Of.b
  rw [decide_eq_false (show ¬ (n : Int) < 0 by omega), decide_eq_false (show ¬ (n : Int) > 32 by omega), mask2 n hn]
  simp only [cond_false, Option.bind_some]
  refine ⟨_, rfl, ?_⟩
  have h2 := (bits_lo h0 h1 (32 - n) (by omega)).2
  unfold maskV
  rw [Int.toNat_natCast, h2]
  have hpos : (0 : Int) < 2 ^ (32 - n) := Int.pow_pos (by omega)
  have h3 := Int.emod_nonneg a (show (2 : Int) ^ (32 - n) ≠ 0 by omega)
  have h5 := Int.mul_ediv_add_emod a (2 ^ (32 - n))
  have h6 := Int.mul_nonneg (Int.le_of_lt hpos) (Int.ediv_nonneg h0 (Int.le_of_lt hpos))
  have h4 : a % 2 ^ (32 - n) ≤ a := by omega
  refine ⟨?_, ?_, by simp, by simp; omega, ?_⟩
  · show 0 ≤ a - a % 2 ^ (32 - n)
    omega
  · show a - a % 2 ^ (32 - n) < 4294967296
    omega
  · show (a - a % 2 ^ (32 - n)) % 2 ^ (32 - ((n : Int)).toNat) = 0
    rw [Int.toNat_natCast]
    rw [show a - a % 2 ^ (32 - n) = 2 ^ (32 - n) * (a / 2 ^ (32 - n)) by omega]
    exact Int.mul_emod_right _ _
end BE
end
