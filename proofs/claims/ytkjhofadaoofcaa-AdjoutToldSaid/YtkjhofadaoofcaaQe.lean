/- Contracts and laws that the claim needs, packed from several texts. -/
import Derived.Test.YtkjhofadaoofcaaQc
section
set_option linter.unusedVariables false
set_option maxRecDepth 100000
open Go Go.Ev
namespace BE
abbrev wI (x : Int) : Int := IntKind.i64.wrap x
abbrev tyI : Ty := (.int .i64)
abbrev tyW : Ty := (.int .u32)
abbrev tyB : Ty := .bool
abbrev tyF : Ty := .f64
abbrev tyS : Ty := .str
abbrev tyU8 : Ty := (.int .u8)
abbrev tyU64 : Ty := (.int .u64)
abbrev tyPrefix : Ty := (.pair tyW tyI)
abbrev TPrefix : Type := Int × Int
abbrev tySeg : Ty := (.pair tyI (.sl tyW))
abbrev TSeg : Type := Int × (List Int)
abbrev tyAttrs : Ty := (.pair tyI (.pair (.sl tySeg) (.pair tyW (.pair tyB (.pair tyW (.pair tyB (.pair tyW (.pair tyB (.sl tyW)))))))))
abbrev TAttrs : Type := Int × (List TSeg) × Int × Bool × Int × Bool × Int × Bool × (List Int)
abbrev tyL22_Ask : Ty := (.pair tyI (.pair tyPrefix (.pair tyAttrs tyB)))
abbrev TL22_Ask : Type := Int × TPrefix × TAttrs × Bool
abbrev tyadjout_Out : Ty := (.pair (.mp tyPrefix tyAttrs) (.mp tyPrefix tyAttrs))
abbrev Tadjout_Out : Type := (List (Nat × (TPrefix × TAttrs)) × Nat) × (List (Nat × (TPrefix × TAttrs)) × Nat)
abbrev tyL22_one : Ty := (.pair tyPrefix (.pair tyAttrs (.pair tyAttrs (.pair tyB tyB))))
abbrev TL22_one : Type := TPrefix × TAttrs × TAttrs × Bool × Bool
abbrev tyadjout_Change : Ty := (.pair tyPrefix (.pair tyAttrs tyB))
abbrev Tadjout_Change : Type := TPrefix × TAttrs × Bool
abbrev dtOut : DT := (.pair (.map tyPrefix tyAttrs) (.map tyPrefix tyAttrs))
abbrev DOut : Type := (List (Nat × (TPrefix × TAttrs)) × Nat) × (List (Nat × (TPrefix × TAttrs)) × Nat)
abbrev Z0 : Type := Int × Int × Int × Unit → Option (Int × Unit)
abbrev Z1 : Type := Int × Int × Unit → Option (TPrefix × Unit)
abbrev Z2 : Type := (Option (List Int)) × Int × Unit → Option ((List Int × Unit) × ((Option (List Int)) × Int × Unit))
abbrev Z3 : Type := (Int × (List TSeg) × (List Int)) → Option (TAttrs × Unit)
abbrev Z4 : Type := Int → (List TSeg) → Int → Bool → Int → Bool → Int → Bool → (List Int) → Int → Int → Bool → Int → Bool → Int → Bool → Int → Int → Bool → Int → Bool → Int → Bool → (Int × (List TSeg) × (List Int)) → Option (TAttrs × Unit)
abbrev Z5 : Type := (Int × Int × (List TSeg) × Int × Bool × Int × Bool × Int × Bool × (List Int) × Int × Int × Bool × Int × Bool × Int × Bool × Int × Int × Bool × Int × Bool × Int × Bool × Int × (List Int)) → Option (TAttrs × Unit)
abbrev Z6 : Type := (Int × Int × (List TSeg) × Int × Bool × Int × Bool × Int × Bool × (List Int) × Int × Int × Bool × Int × Bool × Int × Bool × Int × Int × Bool × Int × Bool × Int × Bool × Int × (List Int))
abbrev Z7 : Type := Unit → Option ((DOut × Unit) × (Unit))
abbrev Z8 : Type := TL22_Ask × Unit → Option (TPrefix × Unit)
abbrev Z9 : Type := TAttrs × Int × Unit → Option (TAttrs × Unit)
abbrev Z10 : Type := DOut × TPrefix × TAttrs × Unit → Option ((Int × Unit) × (DOut × TPrefix × TAttrs × Unit))
abbrev Z11 : Type := DOut × TPrefix × Unit → Option ((Bool × Unit) × (DOut × TPrefix × Unit))
abbrev Z12 : Type := DOut × Unit → Option ((List Tadjout_Change × Unit) × (DOut × Unit))
abbrev Z13 : Type := (Option (List TL22_one)) × TPrefix × Unit → Option ((List TL22_one × Int × Unit) × ((Option (List TL22_one)) × TPrefix × Unit))
abbrev Z14 : Type := TAttrs × TAttrs × Unit → Option (Bool × Unit)
abbrev Z15 : Type := Tadjout_Out × Unit → Option (List TPrefix × Unit)
abbrev Z16 : Type := DOut × TPrefix × Unit → Option ((TAttrs × Bool × Unit) × (DOut × TPrefix × Unit))
abbrev Z17 : Type := (Int × DOut × (List TL22_one)) → Option (Bool × Unit)
abbrev Z18 : Type := (Int × Int × DOut × (List TPrefix)) → Option (Bool × Unit)
abbrev Z19 : Type := (Int × Int × DOut × (List TPrefix))
abbrev Z20 : Type := Int → (List TL22_one) → (Int × Int × DOut × (List TPrefix)) → Option (Bool × Unit)
abbrev Z21 : Type := (Int × DOut × (List TL22_one) × (List Tadjout_Change)) → Option (Bool × Unit)
abbrev Z22 : Type := (Int × DOut × (List TL22_one) × (List Tadjout_Change))
abbrev Z23 : Type := Int → (Int × DOut × (List TL22_one) × (List Tadjout_Change)) → Option (Bool × Unit)
abbrev Z24 : Type := TPrefix × TPrefix × Unit → Option (Bool × Unit)
abbrev Z25 : Type := (Int × Int × Int) → Option ((List TL22_one × Int × Unit) × ((Option (List TL22_one)) × TPrefix × Unit))
abbrev Z26 : Type := TPrefix × Unit → Option (Bool × Unit)
abbrev Z27 : Type := (Int × (List TSeg)) → Option (List TSeg × Unit)
abbrev Z28 : Type := (List TSeg) × Unit → Option (List TSeg × Unit)
abbrev Z29 : Type := (Int × Int × Int × Bool × Int × Bool × Int × Bool × (List Int) × (List TSeg) × Int × Int × Bool × Int × Bool × Int × Bool × (List Int)) → Option (TAttrs × Unit)
abbrev Z30 : Type := (Int × Int × Int × Bool × Int × Bool × Int × Bool × (List Int) × (List TSeg) × Int × Int × Bool × Int × Bool × Int × Bool × (List Int))
abbrev Z31 : Type := TAttrs × Unit → Option (TAttrs × Unit)
abbrev Z32 : Type := (List TSeg) × (List TSeg) × Unit → Option (Int × Unit)
abbrev Z33 : Type := (Int × Int × (List TSeg) × Int × Bool × Int × Bool × Int × Bool × (List Int) × Int × (List TSeg) × Int × Bool × Int × Bool × Int × Bool × (List Int)) → Option (Int × Unit)
abbrev Z34 : Type := (Int × Int × (List TSeg) × Int × Bool × Int × Bool × Int × Bool × (List Int) × Int × (List TSeg) × Int × Bool × Int × Bool × Int × Bool × (List Int))
abbrev Z35 : Type := Int → Option ((List Int × Unit) × ((Option (List Int)) × Int × Unit))
abbrev Z36 : Type := TAttrs × TAttrs × Unit → Option (Int × Unit)
abbrev Z37 : Type := Tadjout_Out × TPrefix × Unit → Option (Bool × Unit)
abbrev Z38 : Type := (List TPrefix) × (Unit) × Unit → Option ((Unit) × ((List TPrefix) × (Unit) × Unit))
abbrev Z39 : Type := ((List TPrefix) × (List (Nat × (TPrefix × TAttrs))) × Nat × (List Nat)) → Option (List TPrefix × Unit)
abbrev Z40 : Type := ((List TPrefix) × (List (Nat × (TPrefix × TAttrs))) × Nat × (List Nat))
abbrev Z41 : Type := (Int × Int × (List (Nat × (TPrefix × TAttrs))) × Nat × (List (Nat × (TPrefix × TAttrs))) × Nat × (List Tadjout_Change) × (List TPrefix)) → Option ((List Tadjout_Change × Unit) × (DOut × Unit))
abbrev Z42 : Type := (Int × Int × (List (Nat × (TPrefix × TAttrs))) × Nat × (List (Nat × (TPrefix × TAttrs))) × Nat × (List Tadjout_Change) × (List TPrefix))
abbrev Z43 : Type := TAttrs × Unit → Option (Bool × Unit)
abbrev Z44 : Type := (List (Nat × (TPrefix × TAttrs)) × Nat) × TPrefix × Unit → Option ((TAttrs × Bool × Unit) × ((List (Nat × (TPrefix × TAttrs)) × Nat) × TPrefix × Unit))
abbrev Z45 : Type := (List (Nat × (TPrefix × TAttrs)) × Nat)
abbrev Z46 : Type := (List TSeg) × (List TSeg) × (Unit) × Unit → Option ((Int × Unit) × ((List TSeg) × (List TSeg) × (Unit) × Unit))
abbrev Z47 : Type := (List Int) × Unit → Option (List Int × Unit)
abbrev Z48 : Type := (Int × Int × (List TSeg)) → Option (List TSeg × Unit)
abbrev Z49 : Type := TSeg × Unit → Option (Bool × Unit)
abbrev Z50 : Type := (Int × Int) → Option (Bool × Unit)
abbrev Z51 : Type := Int × Int × Unit → Option (Int × Unit)
abbrev Z52 : Type := (List Int) × (List Int) × Unit → Option (Int × Unit)
abbrev Z53 : Type := (List Int) × Unit → Option (Int × Unit)
abbrev Z54 : Type := ((List Int) × Unit) × Unit → Option ((List Int × Unit) × (((List Int) × Unit) × Unit))
abbrev Z55 : Type := (Option (List Int)) × Unit → Option ((List Int × Unit) × ((Option (List Int)) × Unit))
abbrev Z56 : Type := (List TSeg) × Unit → Option (Bool × Unit)
abbrev Z57 : Type := (List Int) × Unit → Option (Bool × Unit)
abbrev Z58 : Type := (Int × Int × Int) → Option (Int × Unit)
abbrev Z59 : Type := Int → Option ((List Int × Unit) × ((Option (List Int)) × Unit))
abbrev Z60 : Type := (Int × Nat × Nat × Int × (List Int)) → Option ((List Int × Unit) × ((Option (List Int)) × Unit))
abbrev Z61 : Type := (Int × Nat × Nat × Int × (List Int))
abbrev Z62 : Type := TSeg × TSeg × Unit → Option ((Int × Unit) × (TSeg × TSeg × Unit))
abbrev Z63 : Type := (Int × Int) → Option ((Int × Unit) × ((List TSeg) × (List TSeg) × (Unit) × Unit))
abbrev Z64 : Type := (List Int) × Int × Int × Int × Unit → Option ((Unit) × ((List Int) × Int × Int × Int × Unit))
abbrev Z65 : Type := (List Int) × Unit → Option ((Unit) × ((List Int) × Unit))
abbrev Z66 : Type := (List Int) × Int × Int × Unit → Option ((Int × Unit) × ((List Int) × Int × Int × Unit))
abbrev Z67 : Type := (List Int) × Int × Int × Int × Int × Unit → Option ((Int × Unit) × ((List Int) × Int × Int × Int × Int × Unit))
abbrev Z68 : Type := Int × Int × Unit → Option (Bool × Unit)
abbrev Z69 : Type := (Int × (List Int)) → Option ((Unit) × ((List Int) × Int × Int × Unit))
abbrev Z70 : Type := Int → (Int × (List Int)) → Option ((Unit) × ((List Int) × Int × Int × Unit))
abbrev Z71 : Type := (List Int) × Int × Int × Int × Unit → Option ((Int × Int × Unit) × ((List Int) × Int × Int × Int × Unit))
abbrev Z72 : Type := (Int × Int × (List Int)) → Option ((Bool × Unit) × ((List Int) × Int × Int × Unit))
abbrev Z73 : Type := (Int × (List Int)) → Option ((Bool × Unit) × ((List Int) × Int × Int × Unit))
abbrev Z74 : Type := Int → Int → (Int × (List Int)) → Option ((Bool × Unit) × ((List Int) × Int × Int × Unit))
abbrev Z75 : Type := Int → Option ((Bool × Unit) × ((List Int) × Int × Int × Unit))
abbrev Z76 : Type := Int → (List Int) → Int → Option ((Bool × Unit) × ((List Int) × Int × Int × Unit))
abbrev Z77 : Type := (List Int) × Int × Int × Unit → Option ((Unit) × ((List Int) × Int × Int × Unit))
abbrev Z78 : Type := (List Int) × Int × Int × Unit → Option ((Int × Int × Unit) × ((List Int) × Int × Int × Unit))
abbrev Z79 : Type := (List Int) × Int × Int × Unit → Option ((Bool × Unit) × ((List Int) × Int × Int × Unit))
abbrev Z80 : Type := (Bool × Bool) → Option ((Unit) × ((List Int) × Int × Int × Int × Unit))
abbrev Z81 : Type := Option ((List TL22_one × Int × Unit) × ((Option (List TL22_one)) × TPrefix × Unit))
abbrev Z82 : Type := Option ((List Int × Unit) × ((Option (List Int)) × Int × Unit))
abbrev Z83 : Type := Option ((Bool × Unit) × (DOut × TPrefix × Unit))
abbrev Z84 : Type := Option ((List Tadjout_Change × Unit) × (DOut × Unit))
abbrev Z85 : Type := Option ((Int × Unit) × (DOut × TPrefix × TAttrs × Unit))
abbrev Z86 : Type := Option ((TAttrs × Bool × Unit) × (DOut × TPrefix × Unit))
abbrev Z87 : Type := Option ((TAttrs × Bool × Unit) × ((List (Nat × (TPrefix × TAttrs)) × Nat) × TPrefix × Unit))
abbrev Z88 : Type := Option ((Int × Unit) × (TSeg × TSeg × Unit))
abbrev Z89 : Type := Option ((List Int × Unit) × ((Option (List Int)) × Unit))
abbrev Z90 : Type := Option ((Int × Unit) × ((List TSeg) × (List TSeg) × (Unit) × Unit))
abbrev Z91 : Type := Option ((Unit) × ((List Int) × Unit))
abbrev Z92 : Type := Option ((List Int × Unit) × (((List Int) × Unit) × Unit))
abbrev Z93 : Type := Option ((Int × Int × Unit) × ((List Int) × Int × Int × Unit))
abbrev Z94 : Type := Option ((Unit) × ((List Int) × Int × Int × Unit))
abbrev Z95 : Type := Option ((Int × Unit) × ((List Int) × Int × Int × Unit))
abbrev Z96 : Type := Option ((Int × Unit) × ((List Int) × Int × Int × Int × Int × Unit))
abbrev Z97 : Type := Option ((Int × Int × Unit) × ((List Int) × Int × Int × Int × Unit))
abbrev Z98 : Type := Option ((Bool × Unit) × ((List Int) × Int × Int × Unit))
abbrev Z99 : Type := Option ((Unit) × ((List Int) × Int × Int × Int × Unit))
abbrev Z100 : Type := St → Option ((List TL22_one × Int × Unit) × ((Option (List TL22_one)) × TPrefix × Unit))
abbrev Z101 : Type := St → Option ((List Int × Unit) × ((Option (List Int)) × Int × Unit))
abbrev Z102 : Type := St → Option ((List Tadjout_Change × Unit) × (DOut × Unit))
abbrev Z103 : Type := St → Option ((List Int × Unit) × ((Option (List Int)) × Unit))
abbrev Z104 : Type := St → Option ((Int × Unit) × ((List TSeg) × (List TSeg) × (Unit) × Unit))
abbrev Z105 : Type := St → Option ((Unit) × ((List Int) × Int × Int × Unit))
abbrev Z106 : Type := St → Option ((Bool × Unit) × ((List Int) × Int × Int × Unit))
abbrev Z107 : Type := St → Option ((Unit) × ((List Int) × Int × Int × Int × Unit))
noncomputable def Book_Within.b (a0 : Int) (a1 : Int) (a2 : Int) : Option (Int × Unit) :=
  bif !decide (wI (wI (a2 - a1) + (1 : Int)) = (0 : Int)) then
    bif decide (Int.tmod a0 (wI (wI (a2 - a1) + (1 : Int))) < (0 : Int)) then
      some (wI (a1 + wI (wI (wI (Int.tmod a0 (wI (wI (a2 - a1) + (1 : Int))) + a2) - a1) + (1 : Int))), ())
    else
      some (wI (a1 + Int.tmod a0 (wI (wI (a2 - a1) + (1 : Int)))), ())
  else
    none
noncomputable def Book_Within.f (fuel : Nat) (a0 : Int) (a1 : Int) (a2 : Int) : Option (Int × Unit) := Book_Within.b a0 a1 a2
noncomputable def Keep_Next.b (a0 : Int) : Option (Int × Unit) :=
  some (IntKind.u32.wrap (↑(BitVec.ofInt IntKind.u32.bits (3221225984 : Int) ||| BitVec.ofInt IntKind.u32.bits (Int.tmod a0 (6 : Int))).toNat : Int), ())
noncomputable def Keep_Next.f (fuel : Nat) (a0 : Int) : Option (Int × Unit) := Keep_Next.b a0
noncomputable def Keep_Prefix.b (c0 : Z0) (c1 : Z1) (a0 : Int) (a1 : Int) : Option (TPrefix × Unit) :=
  (c0 (a1, (0 : Int), (6 : Int), ())).bind fun r0 =>
  (c1 (IntKind.u32.wrap (↑(BitVec.ofInt IntKind.u32.bits (167772160 : Int) ||| BitVec.ofInt IntKind.u32.bits (IntKind.u32.wrap (Int.tmod a0 (64 : Int) * (2 : Int) ^ Min.min (18 : Nat) IntKind.u32.bits))).toNat : Int), wI ((8 : Int) + r0.fst), ())).bind fun r1 =>
  some (r1.fst, ())
noncomputable def Keep_Prefix.f (c0 : Z0) (c1 : Z1) (fuel : Nat) (a0 : Int) (a1 : Int) : Option (TPrefix × Unit) := Keep_Prefix.b c0 c1 a0 a1
noncomputable def Keep_Tame.b1 (c0 : Z0) (c1 : Int × Unit → Option (Int × Unit)) (c2 : Z2) (a0 : TAttrs) (a1 : Int) (x0_1 : Int) (x0_2 : (List TSeg)) (x0_3 : Int) (x0_4 : Bool) (x0_5 : Int) (x0_6 : Bool) (x0_7 : Int) (x0_8 : Bool) (x0_9 : (List Int)) (x0_10 : Int) (x0_11 : Int) (x0_12 : Bool) (x0_13 : Int) (x0_14 : Bool) (x0_15 : Int) (x0_16 : Bool) (x0_17 : Int) (x0_18 : Int) (x0_19 : Bool) (x0_20 : Int) (x0_21 : Bool) (x0_22 : Int) (x0_23 : Bool) (k1 : Z3) (s : (Int × (List TSeg) × (List Int))) : Option (TAttrs × Unit) :=
  match s with
  | (x1_0, x1_24, x1_25) =>
  bif decide (x1_0 < (↑x0_9.length : Int)) then
    bif decide (x1_0 < (2 : Int)) then
      bif decide ((0 : Int) ≤ x1_0) && decide (x1_0 < (↑x0_9.length : Int)) then
        bif Int.tmod (x0_9.getD x1_0.toNat (0 : Int)) (5 : Int) == (4 : Int) then
          bif decide ((0 : Int) ≤ x1_0) && decide (x1_0 < (↑x0_9.length : Int)) then
            (c2 (some x1_25, IntKind.u32.wrap (IntKind.u32.wrap ((4294967040 : Int) + Int.tmod (x0_9.getD x1_0.toNat (0 : Int)) (3 : Int)) + (1 : Int)), ())).bind fun r3 =>
            k1 (wI (x1_0 + (1 : Int)), x1_24, r3.fst.fst)
          else
            none
        else
          (c2 (some x1_25, IntKind.u32.wrap (Int.tmod (x0_9.getD x1_0.toNat (0 : Int)) (5 : Int) + (1 : Int)), ())).bind fun r2 =>
          k1 (wI (x1_0 + (1 : Int)), x1_24, r2.fst.fst)
      else
        none
    else
      some ((x0_17, x1_24, x0_18, x0_19, x0_20, x0_21, x0_22, x0_23, x1_25), ())
  else
    some ((x0_17, x1_24, x0_18, x0_19, x0_20, x0_21, x0_22, x0_23, x1_25), ())
noncomputable def Keep_Tame.l1 (c0 : Z0) (c1 : Int × Unit → Option (Int × Unit)) (c2 : Z2) (fuel : Nat) (a0 : TAttrs) (a1 : Int) (x0_1 : Int) (x0_2 : (List TSeg)) (x0_3 : Int) (x0_4 : Bool) (x0_5 : Int) (x0_6 : Bool) (x0_7 : Int) (x0_8 : Bool) (x0_9 : (List Int)) (x0_10 : Int) (x0_11 : Int) (x0_12 : Bool) (x0_13 : Int) (x0_14 : Bool) (x0_15 : Int) (x0_16 : Bool) (x0_17 : Int) (x0_18 : Int) (x0_19 : Bool) (x0_20 : Int) (x0_21 : Bool) (x0_22 : Int) (x0_23 : Bool) (n : Nat) (s : (Int × (List TSeg) × (List Int))) : Option (TAttrs × Unit) :=
  iterN (fun k1 s => Keep_Tame.b1 c0 c1 c2 a0 a1 x0_1 x0_2 x0_3 x0_4 x0_5 x0_6 x0_7 x0_8 x0_9 x0_10 x0_11 x0_12 x0_13 x0_14 x0_15 x0_16 x0_17 x0_18 x0_19 x0_20 x0_21 x0_22 x0_23 k1 s) n s
noncomputable def Keep_Tame.b0 (c0 : Z0) (c1 : Int × Unit → Option (Int × Unit)) (c2 : Z2) (a0 : TAttrs) (a1 : Int) (i1 : Z4) (k0 : Z5) (s : Z6) : Option (TAttrs × Unit) :=
  match s with
  | (x0_0, x0_1, x0_2, x0_3, x0_4, x0_5, x0_6, x0_7, x0_8, x0_9, x0_10, x0_11, x0_12, x0_13, x0_14, x0_15, x0_16, x0_17, x0_18, x0_19, x0_20, x0_21, x0_22, x0_23, x0_24, x0_25) =>
  bif decide (x0_0 < (↑x0_2.length : Int)) then
    bif decide (x0_0 < (2 : Int)) then
      bif decide ((0 : Int) ≤ x0_0) && decide (x0_0 < (↑x0_2.length : Int)) then
        bif decide ((x0_25.length + (1 : Nat)) * (4 : Nat) ≤ maxBytes) then
          k0 (wI (x0_0 + (1 : Int)), x0_1, x0_2, x0_3, x0_4, x0_5, x0_6, x0_7, x0_8, x0_9, x0_10, x0_11, x0_12, x0_13, x0_14, x0_15, x0_16, x0_17, x0_18, x0_19, x0_20, x0_21, x0_22, x0_23, x0_24, x0_25 ++ [IntKind.u32.wrap ((64500 : Int) + IntKind.u32.wrap ((↑(List.length (x0_2.getD x0_0.toNat tySeg.dflt).snd) : Int).tmod (4 : Int)))])
        else
          none
      else
        none
    else
      i1 x0_1 x0_2 x0_3 x0_4 x0_5 x0_6 x0_7 x0_8 x0_9 x0_10 x0_11 x0_12 x0_13 x0_14 x0_15 x0_16 x0_17 x0_18 x0_19 x0_20 x0_21 x0_22 x0_23 ((0 : Int), [(x0_24, x0_25)], [])
  else
    i1 x0_1 x0_2 x0_3 x0_4 x0_5 x0_6 x0_7 x0_8 x0_9 x0_10 x0_11 x0_12 x0_13 x0_14 x0_15 x0_16 x0_17 x0_18 x0_19 x0_20 x0_21 x0_22 x0_23 ((0 : Int), [(x0_24, x0_25)], [])
noncomputable def Keep_Tame.l0 (c0 : Z0) (c1 : Int × Unit → Option (Int × Unit)) (c2 : Z2) (fuel : Nat) (a0 : TAttrs) (a1 : Int) (n : Nat) (s : Z6) : Option (TAttrs × Unit) :=
  iterN (fun k0 s => Keep_Tame.b0 c0 c1 c2 a0 a1 (fun x0_1 x0_2 x0_3 x0_4 x0_5 x0_6 x0_7 x0_8 x0_9 x0_10 x0_11 x0_12 x0_13 x0_14 x0_15 x0_16 x0_17 x0_18 x0_19 x0_20 x0_21 x0_22 x0_23 t => Keep_Tame.l1 c0 c1 c2 fuel a0 a1 x0_1 x0_2 x0_3 x0_4 x0_5 x0_6 x0_7 x0_8 x0_9 x0_10 x0_11 x0_12 x0_13 x0_14 x0_15 x0_16 x0_17 x0_18 x0_19 x0_20 x0_21 x0_22 x0_23 fuel t) k0 s) n s
noncomputable def Keep_Tame.b (c0 : Z0) (c1 : Int × Unit → Option (Int × Unit)) (c2 : Z2) (a0 : TAttrs) (a1 : Int) (i0 : Z5) : Option (TAttrs × Unit) :=
  (c0 (a0.fst, (0 : Int), (2 : Int), ())).bind fun r0 =>
  (c1 (a0.snd.snd.fst, ())).bind fun r1 =>
  bif a0.snd.snd.snd.fst then
    bif a0.snd.snd.snd.snd.snd.fst then
      i0 ((0 : Int), a0.fst, a0.snd.fst, a0.snd.snd.fst, a0.snd.snd.snd.fst, a0.snd.snd.snd.snd.fst, a0.snd.snd.snd.snd.snd.fst, a0.snd.snd.snd.snd.snd.snd.fst, a0.snd.snd.snd.snd.snd.snd.snd.fst, a0.snd.snd.snd.snd.snd.snd.snd.snd, (0 : Int), (0 : Int), false, (0 : Int), false, (0 : Int), false, r0.fst, r1.fst, a0.snd.snd.snd.fst, Int.tmod a0.snd.snd.snd.snd.fst (3 : Int), a0.snd.snd.snd.snd.snd.fst, IntKind.u32.wrap ((100 : Int) + Int.tmod a0.snd.snd.snd.snd.snd.snd.fst (3 : Int)), false, (2 : Int), [a1])
    else
      i0 ((0 : Int), a0.fst, a0.snd.fst, a0.snd.snd.fst, a0.snd.snd.snd.fst, a0.snd.snd.snd.snd.fst, a0.snd.snd.snd.snd.snd.fst, a0.snd.snd.snd.snd.snd.snd.fst, a0.snd.snd.snd.snd.snd.snd.snd.fst, a0.snd.snd.snd.snd.snd.snd.snd.snd, (0 : Int), (0 : Int), false, (0 : Int), false, (0 : Int), false, r0.fst, r1.fst, a0.snd.snd.snd.fst, Int.tmod a0.snd.snd.snd.snd.fst (3 : Int), a0.snd.snd.snd.snd.snd.fst, (0 : Int), false, (2 : Int), [a1])
  else
    bif a0.snd.snd.snd.snd.snd.fst then
      i0 ((0 : Int), a0.fst, a0.snd.fst, a0.snd.snd.fst, a0.snd.snd.snd.fst, a0.snd.snd.snd.snd.fst, a0.snd.snd.snd.snd.snd.fst, a0.snd.snd.snd.snd.snd.snd.fst, a0.snd.snd.snd.snd.snd.snd.snd.fst, a0.snd.snd.snd.snd.snd.snd.snd.snd, (0 : Int), (0 : Int), false, (0 : Int), false, (0 : Int), false, r0.fst, r1.fst, a0.snd.snd.snd.fst, (0 : Int), a0.snd.snd.snd.snd.snd.fst, IntKind.u32.wrap ((100 : Int) + Int.tmod a0.snd.snd.snd.snd.snd.snd.fst (3 : Int)), false, (2 : Int), [a1])
    else
      i0 ((0 : Int), a0.fst, a0.snd.fst, a0.snd.snd.fst, a0.snd.snd.snd.fst, a0.snd.snd.snd.snd.fst, a0.snd.snd.snd.snd.snd.fst, a0.snd.snd.snd.snd.snd.snd.fst, a0.snd.snd.snd.snd.snd.snd.snd.fst, a0.snd.snd.snd.snd.snd.snd.snd.snd, (0 : Int), (0 : Int), false, (0 : Int), false, (0 : Int), false, r0.fst, r1.fst, a0.snd.snd.snd.fst, (0 : Int), a0.snd.snd.snd.snd.snd.fst, (0 : Int), false, (2 : Int), [a1])
noncomputable def Keep_Tame.f (c0 : Z0) (c1 : Int × Unit → Option (Int × Unit)) (c2 : Z2) (fuel : Nat) (a0 : TAttrs) (a1 : Int) : Option (TAttrs × Unit) := Keep_Tame.b c0 c1 c2 a0 a1 (fun t => Keep_Tame.l0 c0 c1 c2 fuel a0 a1 fuel t)
noncomputable def L22_AdjoutTold.b2 (c0 : Z7) (c1 : Z8) (c2 : Z9) (c3 : Z10) (c4 : Z11) (c5 : Z12) (c6 : Z13) (c7 : Z14) (c8 : Z15) (c9 : Z16) (c10 : Unit → Option (Bool × Unit)) (a0 : (List TL22_Ask)) (x0_1 : Int) (x1_4 : (List TL22_one)) (k0 : Z17) (k2 : Z18) (s : Z19) : Option (Bool × Unit) :=
  match s with
  | (x2_2, x2_3, x2_4, x2_6) =>
  bif decide (x2_3 < (↑x1_4.length : Int)) then
    let v0 := ib x2_3 x1_4.length
    grd (v0) <|
    let v1 := x1_4.getD x2_3.toNat tyL22_one.dflt
    let v2 := wI (x2_3 + (1 : Int))
    let v3 := v1.snd
    bif !v3.snd.snd.fst then
      k2 (x2_2, v2, x2_4, x2_6)
    else
      grd (v0) <|
      let v4 := v1.fst
      (c9 (x2_4, v4, ())).bind fun r5 =>
      bif decide (x2_2 ≥ (↑x2_6.length : Int)) then
        some (false, ())
      else
        grd (ib x2_2 x2_6.length) <|
        grd (v0) <|
        let v5 := x2_6.getD x2_2.toNat tyPrefix.dflt
        bif !(v5.fst == v4.fst && v5.snd == v4.snd) then
          some (false, ())
        else
          bif !r5.fst.snd.fst then
            some (false, ())
          else
            grd (v0) <|
            (c7 (r5.fst.fst, v3.fst, ())).bind fun r6 =>
            bif !r6.fst then
              some (false, ())
            else
              k2 (wI (x2_2 + (1 : Int)), v2, r5.snd.fst, x2_6)
  else
    bif x2_2 != (↑x2_6.length : Int) then
      some (false, ())
    else
      k0 (wI (x0_1 + (1 : Int)), x2_4, x1_4)
noncomputable def L22_AdjoutTold.l2 (c0 : Z7) (c1 : Z8) (c2 : Z9) (c3 : Z10) (c4 : Z11) (c5 : Z12) (c6 : Z13) (c7 : Z14) (c8 : Z15) (c9 : Z16) (c10 : Unit → Option (Bool × Unit)) (fuel : Nat) (a0 : (List TL22_Ask)) (x0_1 : Int) (x1_4 : (List TL22_one)) (k0 : Z17) (n : Nat) (s : Z19) : Option (Bool × Unit) :=
  iterN (fun k2 s => L22_AdjoutTold.b2 c0 c1 c2 c3 c4 c5 c6 c7 c8 c9 c10 a0 x0_1 x1_4 k0 k2 s) n s
noncomputable def L22_AdjoutTold.b1 (c0 : Z7) (c1 : Z8) (c2 : Z9) (c3 : Z10) (c4 : Z11) (c5 : Z12) (c6 : Z13) (c7 : Z14) (c8 : Z15) (c9 : Z16) (c10 : Unit → Option (Bool × Unit)) (a0 : (List TL22_Ask)) (x0_1 : Int) (i2 : Z20) (k0 : Z17) (k1 : Z21) (s : Z22) : Option (Bool × Unit) :=
  match s with
  | (x1_2, x1_3, x1_4, x1_5) =>
  bif decide (x1_2 < (↑x1_5.length : Int)) then
    let v6 := ib x1_2 x1_5.length
    grd (v6) <|
    let v7 := x1_5.getD x1_2.toNat tyadjout_Change.dflt
    (c6 (some x1_4, v7.fst, ())).bind fun r7 =>
    let v8 := ib r7.fst.snd.fst (List.length r7.fst.fst)
    grd (v8) <|
    grd (v6) <|
    let v9 := wI (x1_2 + (1 : Int))
    let v10 := v7.snd
    let v11 := v10.snd
    let v12 := v10.fst
    let v13 := Int.toNat r7.fst.snd.fst
    let v14 := List.getD r7.fst.fst v13 tyL22_one.dflt
    let v15 := v14.snd
    let v16 := v15.fst
    let v17 := v15.snd
    let v18 := v17.snd
    let v19 := v18.fst
    let v20 := List.set r7.fst.fst v13 (v14.fst, v16, v17.fst, v11, v18.snd)
    let v21 := ib r7.fst.snd.fst v20.length
    let v22 := v20.getD v13 tyL22_one.dflt
    let v23 := v20.set v13 (v22.fst, v12, v22.snd.snd)
    bif v19 == v11 then
      grd (v8) <|
      bif !v19 then
        some (false, ())
      else
        grd (v8) <|
        grd (v6) <|
        (c7 (v16, v12, ())).bind fun r8 =>
        bif r8.fst then
          some (false, ())
        else
          grd (v6) <|
          grd (v6) <|
          grd (v8) <|
          grd (v21) <|
          k1 (v9, x1_3, v23, x1_5)
    else
      grd (v6) <|
      grd (v6) <|
      grd (v8) <|
      grd (v21) <|
      k1 (v9, x1_3, v23, x1_5)
  else
    (c8 (x1_3, ())).bind fun r4 =>
    i2 x0_1 x1_4 ((0 : Int), (0 : Int), x1_3, r4.fst)
noncomputable def L22_AdjoutTold.l1 (c0 : Z7) (c1 : Z8) (c2 : Z9) (c3 : Z10) (c4 : Z11) (c5 : Z12) (c6 : Z13) (c7 : Z14) (c8 : Z15) (c9 : Z16) (c10 : Unit → Option (Bool × Unit)) (fuel : Nat) (a0 : (List TL22_Ask)) (x0_1 : Int) (k0 : Z17) (n : Nat) (s : Z22) : Option (Bool × Unit) :=
  iterN (fun k1 s => L22_AdjoutTold.b1 c0 c1 c2 c3 c4 c5 c6 c7 c8 c9 c10 a0 x0_1 (fun x0_1 x1_4 t => L22_AdjoutTold.l2 c0 c1 c2 c3 c4 c5 c6 c7 c8 c9 c10 fuel a0 x0_1 x1_4 k0 fuel t) k0 k1 s) n s
noncomputable def L22_AdjoutTold.b0 (c0 : Z7) (c1 : Z8) (c2 : Z9) (c3 : Z10) (c4 : Z11) (c5 : Z12) (c6 : Z13) (c7 : Z14) (c8 : Z15) (c9 : Z16) (c10 : Unit → Option (Bool × Unit)) (a0 : (List TL22_Ask)) (i1 : Z23) (k0 : Z17) (s : (Int × DOut × (List TL22_one))) : Option (Bool × Unit) :=
  match s with
  | (x0_1, x0_2, x0_3) =>
  let v24 := (↑(List.length a0) : Int)
  bif decide (x0_1 < v24) then
    bif decide (x0_1 < (60 : Int)) then
      grd (ib x0_1 (List.length a0)) <|
      let v25 := List.getD a0 x0_1.toNat tyL22_Ask.dflt
      let v26 := wI (x0_1 + (1 : Int))
      let v27 := decide (v26 < (60 : Int))
      let v28 := decide (v26 < v24)
      let v29 := v25.fst
      let v30 := v25.snd
      let v31 := v29 == (2 : Int)
      let v32 := v29 != (3 : Int)
      let v33 := v30.snd.fst
      bif v29 == (1 : Int) then
        (c1 ((v29, v30.fst, v33, true), ())).bind fun r16 =>
        (c2 (v33, (65001 : Int), ())).bind fun r17 =>
        (c3 (x0_2, r16.fst, r17.fst, ())).bind fun r18 =>
        bif v31 then
          (c1 ((v29, v30.fst, v33, true), ())).bind fun r22 =>
          (c4 (r18.snd.fst, r22.fst, ())).bind fun r23 =>
          bif v32 then
            bif v28 then
              bif v27 then
                k0 (v26, r23.snd.fst, x0_3)
              else
                (c5 (r23.snd.fst, ())).bind fun r26 =>
                i1 x0_1 ((0 : Int), r26.snd.fst, x0_3, r26.fst.fst)
            else
              (c5 (r23.snd.fst, ())).bind fun r25 =>
              i1 x0_1 ((0 : Int), r25.snd.fst, x0_3, r25.fst.fst)
          else
            (c5 (r23.snd.fst, ())).bind fun r24 =>
            i1 x0_1 ((0 : Int), r24.snd.fst, x0_3, r24.fst.fst)
        else
          bif v32 then
            bif v28 then
              bif v27 then
                k0 (v26, r18.snd.fst, x0_3)
              else
                (c5 (r18.snd.fst, ())).bind fun r21 =>
                i1 x0_1 ((0 : Int), r21.snd.fst, x0_3, r21.fst.fst)
            else
              (c5 (r18.snd.fst, ())).bind fun r20 =>
              i1 x0_1 ((0 : Int), r20.snd.fst, x0_3, r20.fst.fst)
          else
            (c5 (r18.snd.fst, ())).bind fun r19 =>
            i1 x0_1 ((0 : Int), r19.snd.fst, x0_3, r19.fst.fst)
      else
        bif v31 then
          (c1 ((v29, v30.fst, v33, true), ())).bind fun r11 =>
          (c4 (x0_2, r11.fst, ())).bind fun r12 =>
          bif v32 then
            bif v28 then
              bif v27 then
                k0 (v26, r12.snd.fst, x0_3)
              else
                (c5 (r12.snd.fst, ())).bind fun r15 =>
                i1 x0_1 ((0 : Int), r15.snd.fst, x0_3, r15.fst.fst)
            else
              (c5 (r12.snd.fst, ())).bind fun r14 =>
              i1 x0_1 ((0 : Int), r14.snd.fst, x0_3, r14.fst.fst)
          else
            (c5 (r12.snd.fst, ())).bind fun r13 =>
            i1 x0_1 ((0 : Int), r13.snd.fst, x0_3, r13.fst.fst)
        else
          bif v32 then
            bif v28 then
              bif v27 then
                k0 (v26, x0_2, x0_3)
              else
                (c5 (x0_2, ())).bind fun r10 =>
                i1 x0_1 ((0 : Int), r10.snd.fst, x0_3, r10.fst.fst)
            else
              (c5 (x0_2, ())).bind fun r9 =>
              i1 x0_1 ((0 : Int), r9.snd.fst, x0_3, r9.fst.fst)
          else
            (c5 (x0_2, ())).bind fun r3 =>
            i1 x0_1 ((0 : Int), r3.snd.fst, x0_3, r3.fst.fst)
    else
      (c10 ()).bind fun r2 =>
      some (r2.fst, ())
  else
    (c10 ()).bind fun r1 =>
    some (r1.fst, ())
noncomputable def L22_AdjoutTold.l0 (c0 : Z7) (c1 : Z8) (c2 : Z9) (c3 : Z10) (c4 : Z11) (c5 : Z12) (c6 : Z13) (c7 : Z14) (c8 : Z15) (c9 : Z16) (c10 : Unit → Option (Bool × Unit)) (fuel : Nat) (a0 : (List TL22_Ask)) (n : Nat) (s : (Int × DOut × (List TL22_one))) : Option (Bool × Unit) :=
  iterN (fun k0 s => L22_AdjoutTold.b0 c0 c1 c2 c3 c4 c5 c6 c7 c8 c9 c10 a0 (fun x0_1 t => L22_AdjoutTold.l1 c0 c1 c2 c3 c4 c5 c6 c7 c8 c9 c10 fuel a0 x0_1 k0 fuel t) k0 s) n s
noncomputable def L22_AdjoutTold.b (c0 : Z7) (c1 : Z8) (c2 : Z9) (c3 : Z10) (c4 : Z11) (c5 : Z12) (c6 : Z13) (c7 : Z14) (c8 : Z15) (c9 : Z16) (c10 : Unit → Option (Bool × Unit)) (a0 : (List TL22_Ask)) (i0 : Z17) : Option (Bool × Unit) :=
  (c0 ()).bind fun r0 =>
  i0 ((0 : Int), r0.fst.fst, [])
noncomputable def L22_AdjoutTold.f (c0 : Z7) (c1 : Z8) (c2 : Z9) (c3 : Z10) (c4 : Z11) (c5 : Z12) (c6 : Z13) (c7 : Z14) (c8 : Z15) (c9 : Z16) (c10 : Unit → Option (Bool × Unit)) (fuel : Nat) (a0 : (List TL22_Ask)) : Option (Bool × Unit) := L22_AdjoutTold.b c0 c1 c2 c3 c4 c5 c6 c7 c8 c9 c10 a0 (fun t => L22_AdjoutTold.l0 c0 c1 c2 c3 c4 c5 c6 c7 c8 c9 c10 fuel a0 fuel t)
noncomputable def L22_at.b0 (c0 : Z24) (a0 : (List TL22_one)) (a1 : TPrefix) (k0 : Z25) (s : (Int × Int × Int)) : Z81 :=
  match s with
  | (x0_0, x0_3, x0_4) =>
  bif decide (x0_0 < (↑a0.length : Int)) then
    bif decide ((0 : Int) ≤ x0_0) && decide (x0_0 < (↑a0.length : Int)) then
      (c0 ((a0.getD x0_0.toNat tyL22_one.dflt).fst, (x0_3, x0_4), ())).bind fun r0 =>
      bif r0.fst then
        k0 (wI (x0_0 + (1 : Int)), x0_3, x0_4)
      else
        bif decide (x0_0 < (↑a0.length : Int)) then
          bif decide ((0 : Int) ≤ x0_0) && decide (x0_0 < (↑a0.length : Int)) then
            bif (a0.getD x0_0.toNat tyL22_one.dflt).fst.fst == x0_3 && (a0.getD x0_0.toNat tyL22_one.dflt).fst.snd == x0_4 then
              some ((a0, x0_0, ()), (none, (a1, ())))
            else
              bif decide ((0 : Int) ≤ x0_0) && decide (x0_0 ≤ (↑a0.length : Int)) then
                bif decide (((0 : Nat) + (List.take (x0_0.toNat - (0 : Nat)) (List.drop (0 : Nat) a0)).length) * (184 : Nat) ≤ maxBytes) then
                  bif decide ((([] ++ List.take (x0_0.toNat - (0 : Nat)) (List.drop (0 : Nat) a0)).length + (1 : Nat)) * (184 : Nat) ≤ maxBytes) then
                    bif decide ((0 : Int) ≤ x0_0) && decide (x0_0 ≤ (↑a0.length : Int)) && decide ((↑a0.length : Int) ≤ (↑a0.length : Int)) then
                      bif decide ((([] ++ List.take (x0_0.toNat - (0 : Nat)) (List.drop (0 : Nat) a0) ++ [((x0_3, x0_4), ((0 : Int), [], (0 : Int), false, (0 : Int), false, (0 : Int), false, []), ((0 : Int), [], (0 : Int), false, (0 : Int), false, (0 : Int), false, []), false, false)]).length + (List.take ((↑a0.length : Int).toNat - x0_0.toNat) (List.drop x0_0.toNat a0)).length) * (184 : Nat) ≤ maxBytes) then
                        some (([] ++ List.take (x0_0.toNat - (0 : Nat)) (List.drop (0 : Nat) a0) ++ [((x0_3, x0_4), ((0 : Int), [], (0 : Int), false, (0 : Int), false, (0 : Int), false, []), ((0 : Int), [], (0 : Int), false, (0 : Int), false, (0 : Int), false, []), false, false)] ++ List.take ((↑a0.length : Int).toNat - x0_0.toNat) (List.drop x0_0.toNat a0), x0_0, ()), (none, (a1, ())))
                      else
                        none
                    else
                      none
                  else
                    none
                else
                  none
              else
                none
          else
            none
        else
          bif decide ((0 : Int) ≤ x0_0) && decide (x0_0 ≤ (↑a0.length : Int)) then
            bif decide (((0 : Nat) + (List.take (x0_0.toNat - (0 : Nat)) (List.drop (0 : Nat) a0)).length) * (184 : Nat) ≤ maxBytes) then
              bif decide ((([] ++ List.take (x0_0.toNat - (0 : Nat)) (List.drop (0 : Nat) a0)).length + (1 : Nat)) * (184 : Nat) ≤ maxBytes) then
                bif decide ((0 : Int) ≤ x0_0) && decide (x0_0 ≤ (↑a0.length : Int)) && decide ((↑a0.length : Int) ≤ (↑a0.length : Int)) then
                  bif decide ((([] ++ List.take (x0_0.toNat - (0 : Nat)) (List.drop (0 : Nat) a0) ++ [((x0_3, x0_4), ((0 : Int), [], (0 : Int), false, (0 : Int), false, (0 : Int), false, []), ((0 : Int), [], (0 : Int), false, (0 : Int), false, (0 : Int), false, []), false, false)]).length + (List.take ((↑a0.length : Int).toNat - x0_0.toNat) (List.drop x0_0.toNat a0)).length) * (184 : Nat) ≤ maxBytes) then
                    some (([] ++ List.take (x0_0.toNat - (0 : Nat)) (List.drop (0 : Nat) a0) ++ [((x0_3, x0_4), ((0 : Int), [], (0 : Int), false, (0 : Int), false, (0 : Int), false, []), ((0 : Int), [], (0 : Int), false, (0 : Int), false, (0 : Int), false, []), false, false)] ++ List.take ((↑a0.length : Int).toNat - x0_0.toNat) (List.drop x0_0.toNat a0), x0_0, ()), (none, (a1, ())))
                  else
                    none
                else
                  none
              else
                none
            else
              none
          else
            none
    else
      none
  else
    bif decide (x0_0 < (↑a0.length : Int)) then
      bif decide ((0 : Int) ≤ x0_0) && decide (x0_0 < (↑a0.length : Int)) then
        bif (a0.getD x0_0.toNat tyL22_one.dflt).fst.fst == x0_3 && (a0.getD x0_0.toNat tyL22_one.dflt).fst.snd == x0_4 then
          some ((a0, x0_0, ()), (none, (a1, ())))
        else
          bif decide ((0 : Int) ≤ x0_0) && decide (x0_0 ≤ (↑a0.length : Int)) then
            bif decide (((0 : Nat) + (List.take (x0_0.toNat - (0 : Nat)) (List.drop (0 : Nat) a0)).length) * (184 : Nat) ≤ maxBytes) then
              bif decide ((([] ++ List.take (x0_0.toNat - (0 : Nat)) (List.drop (0 : Nat) a0)).length + (1 : Nat)) * (184 : Nat) ≤ maxBytes) then
                bif decide ((0 : Int) ≤ x0_0) && decide (x0_0 ≤ (↑a0.length : Int)) && decide ((↑a0.length : Int) ≤ (↑a0.length : Int)) then
                  bif decide ((([] ++ List.take (x0_0.toNat - (0 : Nat)) (List.drop (0 : Nat) a0) ++ [((x0_3, x0_4), ((0 : Int), [], (0 : Int), false, (0 : Int), false, (0 : Int), false, []), ((0 : Int), [], (0 : Int), false, (0 : Int), false, (0 : Int), false, []), false, false)]).length + (List.take ((↑a0.length : Int).toNat - x0_0.toNat) (List.drop x0_0.toNat a0)).length) * (184 : Nat) ≤ maxBytes) then
                    some (([] ++ List.take (x0_0.toNat - (0 : Nat)) (List.drop (0 : Nat) a0) ++ [((x0_3, x0_4), ((0 : Int), [], (0 : Int), false, (0 : Int), false, (0 : Int), false, []), ((0 : Int), [], (0 : Int), false, (0 : Int), false, (0 : Int), false, []), false, false)] ++ List.take ((↑a0.length : Int).toNat - x0_0.toNat) (List.drop x0_0.toNat a0), x0_0, ()), (none, (a1, ())))
                  else
                    none
                else
                  none
              else
                none
            else
              none
          else
            none
      else
        none
    else
      bif decide ((0 : Int) ≤ x0_0) && decide (x0_0 ≤ (↑a0.length : Int)) then
        bif decide (((0 : Nat) + (List.take (x0_0.toNat - (0 : Nat)) (List.drop (0 : Nat) a0)).length) * (184 : Nat) ≤ maxBytes) then
          bif decide ((([] ++ List.take (x0_0.toNat - (0 : Nat)) (List.drop (0 : Nat) a0)).length + (1 : Nat)) * (184 : Nat) ≤ maxBytes) then
            bif decide ((0 : Int) ≤ x0_0) && decide (x0_0 ≤ (↑a0.length : Int)) && decide ((↑a0.length : Int) ≤ (↑a0.length : Int)) then
              bif decide ((([] ++ List.take (x0_0.toNat - (0 : Nat)) (List.drop (0 : Nat) a0) ++ [((x0_3, x0_4), ((0 : Int), [], (0 : Int), false, (0 : Int), false, (0 : Int), false, []), ((0 : Int), [], (0 : Int), false, (0 : Int), false, (0 : Int), false, []), false, false)]).length + (List.take ((↑a0.length : Int).toNat - x0_0.toNat) (List.drop x0_0.toNat a0)).length) * (184 : Nat) ≤ maxBytes) then
                some (([] ++ List.take (x0_0.toNat - (0 : Nat)) (List.drop (0 : Nat) a0) ++ [((x0_3, x0_4), ((0 : Int), [], (0 : Int), false, (0 : Int), false, (0 : Int), false, []), ((0 : Int), [], (0 : Int), false, (0 : Int), false, (0 : Int), false, []), false, false)] ++ List.take ((↑a0.length : Int).toNat - x0_0.toNat) (List.drop x0_0.toNat a0), x0_0, ()), (none, (a1, ())))
              else
                none
            else
              none
          else
            none
        else
          none
      else
        none
noncomputable def L22_at.l0 (c0 : Z24) (fuel : Nat) (a0 : (List TL22_one)) (a1 : TPrefix) (n : Nat) (s : (Int × Int × Int)) : Z81 :=
  iterN (fun k0 s => L22_at.b0 c0 a0 a1 k0 s) n s
noncomputable def L22_at.b (c0 : Z24) (a0 : (List TL22_one)) (a1 : TPrefix) (i0 : Z25) : Z81 :=
  i0 ((0 : Int), a1.fst, a1.snd)
noncomputable def L22_at.f (c0 : Z24) (fuel : Nat) (a0 : (List TL22_one)) (a1 : TPrefix) : Z81 := L22_at.b c0 a0 a1 (fun t => L22_at.l0 c0 fuel a0 a1 fuel t)
noncomputable def L22_known.b (c0 : Z7) (c1 : Z9) (c2 : Z10) (c3 : Z15) (c4 : Z12) (c5 : Z11) : Option (Bool × Unit) :=
  (c0 ()).bind fun r0 =>
  (c1 (((0 : Int), [], (0 : Int), false, (0 : Int), false, (0 : Int), false, []), (65001 : Int), ())).bind fun r1 =>
  (c2 (r0.fst.fst, ((167772160 : Int), (8 : Int)), r1.fst, ())).bind fun r2 =>
  (c3 (r2.snd.fst, ())).bind fun r3 =>
  (c4 (r2.snd.fst, ())).bind fun r4 =>
  bif r2.fst.fst == (0 : Int) then
    bif (↑(List.length r3.fst) : Int) == (1 : Int) then
      bif (↑(List.length r4.fst.fst) : Int) == (1 : Int) then
        bif decide ((0 : Int) < (↑(List.length r4.fst.fst) : Int)) then
          bif (List.getD r4.fst.fst (0 : Nat) tyadjout_Change.dflt).snd.snd then
            bif decide ((0 : Int) < (↑(List.length r4.fst.fst) : Int)) then
              bif (List.getD r4.fst.fst (0 : Nat) tyadjout_Change.dflt).fst.fst == (167772160 : Int) && (List.getD r4.fst.fst (0 : Nat) tyadjout_Change.dflt).fst.snd == (8 : Int) then
                (c3 (r4.snd.fst, ())).bind fun r5 =>
                bif (↑(List.length r5.fst) : Int) == (0 : Int) then
                  (c4 (r4.snd.fst, ())).bind fun r6 =>
                  bif (↑(List.length r6.fst.fst) : Int) == (0 : Int) then
                    (c5 (r6.snd.fst, ((167772160 : Int), (8 : Int)), ())).bind fun r7 =>
                    bif r7.fst.fst then
                      (c3 (r7.snd.fst, ())).bind fun r8 =>
                      some ((↑(List.length r8.fst) : Int) == (1 : Int), ())
                    else
                      some (false, ())
                  else
                    some (false, ())
                else
                  some (false, ())
              else
                some (false, ())
            else
              none
          else
            some (false, ())
        else
          none
      else
        some (false, ())
    else
      some (false, ())
  else
    some (false, ())
noncomputable def L22_known.f (c0 : Z7) (c1 : Z9) (c2 : Z10) (c3 : Z15) (c4 : Z12) (c5 : Z11) (fuel : Nat) : Option (Bool × Unit) := L22_known.b c0 c1 c2 c3 c4 c5
noncomputable def L22_prefix.b (c0 : Z1) (a0 : TL22_Ask) : Option (TPrefix × Unit) :=
  bif a0.snd.snd.snd then
    (c0 (IntKind.u32.wrap (Int.tmod a0.snd.fst.fst (8 : Int) * (2 : Int) ^ Min.min (3 : Nat) IntKind.u32.bits), a0.snd.fst.snd, ())).bind fun r0 =>
    some (r0.fst, ())
  else
    some (a0.snd.fst, ())
noncomputable def L22_prefix.f (c0 : Z1) (fuel : Nat) (a0 : TL22_Ask) : Option (TPrefix × Unit) := L22_prefix.b c0 a0
noncomputable def Ref1_Less.b (c0 : Z26) (a0 : TPrefix) (a1 : TPrefix) : Option (Bool × Unit) :=
  (c0 (a0, ())).bind fun r0 =>
  bif !r0.fst then
    some (false, ())
  else
    (c0 (a1, ())).bind fun r1 =>
    bif !r1.fst then
      some (false, ())
    else
      bif decide (a0.fst < a1.fst) then
        some (true, ())
      else
        bif a0.fst == a1.fst then
          some (decide (a0.snd < a1.snd), ())
        else
          some (false, ())
noncomputable def Ref1_Less.f (c0 : Z26) (fuel : Nat) (a0 : TPrefix) (a1 : TPrefix) : Option (Bool × Unit) := Ref1_Less.b c0 a0 a1
noncomputable def Ref1_Mask.b0 (a0 : Int) (k0 : (Int × Int) → Option (Int × Unit)) (s : (Int × Int)) : Option (Int × Unit) :=
  match s with
  | (x0_1, x0_2) =>
  bif decide (x0_2 < a0) then
    bif decide (x0_2 < (32 : Int)) then
      bif decide ((0 : Int) ≤ IntKind.u64.wrap (wI ((31 : Int) - x0_2))) then
        k0 (IntKind.u32.wrap (↑(BitVec.ofInt IntKind.u32.bits x0_1 ||| BitVec.ofInt IntKind.u32.bits (IntKind.u32.wrap ((1 : Int) * (2 : Int) ^ Min.min (IntKind.u64.wrap (wI ((31 : Int) - x0_2))).toNat IntKind.u32.bits))).toNat : Int), wI (x0_2 + (1 : Int)))
      else
        none
    else
      some (x0_1, ())
  else
    some (x0_1, ())
noncomputable def Ref1_Mask.l0 (fuel : Nat) (a0 : Int) (n : Nat) (s : (Int × Int)) : Option (Int × Unit) :=
  iterN (fun k0 s => Ref1_Mask.b0 a0 k0 s) n s
noncomputable def Ref1_Mask.b (a0 : Int) (i0 : (Int × Int) → Option (Int × Unit)) : Option (Int × Unit) :=
  i0 ((0 : Int), (0 : Int))
noncomputable def Ref1_Mask.f (fuel : Nat) (a0 : Int) : Option (Int × Unit) := Ref1_Mask.b a0 (fun t => Ref1_Mask.l0 fuel a0 fuel t)
noncomputable def Ref1_Of.b (c0 : Int × Unit → Option (Int × Unit)) (a0 : Int) (a1 : Int) : Option (TPrefix × Unit) :=
  bif decide (a1 < (0 : Int)) then
    (c0 ((0 : Int), ())).bind fun r2 =>
    some ((IntKind.u32.wrap (↑(BitVec.ofInt IntKind.u32.bits a0 &&& BitVec.ofInt IntKind.u32.bits r2.fst).toNat : Int), (0 : Int)), ())
  else
    bif decide (a1 > (32 : Int)) then
      (c0 ((32 : Int), ())).bind fun r1 =>
      some ((IntKind.u32.wrap (↑(BitVec.ofInt IntKind.u32.bits a0 &&& BitVec.ofInt IntKind.u32.bits r1.fst).toNat : Int), (32 : Int)), ())
    else
      (c0 (a1, ())).bind fun r0 =>
      some ((IntKind.u32.wrap (↑(BitVec.ofInt IntKind.u32.bits a0 &&& BitVec.ofInt IntKind.u32.bits r0.fst).toNat : Int), a1), ())
noncomputable def Ref1_Of.f (c0 : Int × Unit → Option (Int × Unit)) (fuel : Nat) (a0 : Int) (a1 : Int) : Option (TPrefix × Unit) := Ref1_Of.b c0 a0 a1
noncomputable def Ref1_Right.b (c0 : Int × Unit → Option (Int × Unit)) (a0 : TPrefix) : Option (Bool × Unit) :=
  bif decide (a0.snd ≥ (0 : Int)) then
    bif decide (a0.snd ≤ (32 : Int)) then
      (c0 (a0.snd, ())).bind fun r0 =>
      some (IntKind.u32.wrap (↑(BitVec.ofInt IntKind.u32.bits a0.fst &&& ~~~BitVec.ofInt IntKind.u32.bits r0.fst).toNat : Int) == (0 : Int), ())
    else
      some (false, ())
  else
    some (false, ())
noncomputable def Ref1_Right.f (c0 : Int × Unit → Option (Int × Unit)) (fuel : Nat) (a0 : TPrefix) : Option (Bool × Unit) := Ref1_Right.b c0 a0
noncomputable def Ref6_Copy.b0 (a0 : (List TSeg)) (k0 : Z27) (s : (Int × (List TSeg))) : Option (List TSeg × Unit) :=
  match s with
  | (x0_1, x0_2) =>
  bif decide (x0_1 < (↑(List.length a0) : Int)) then
    bif decide ((0 : Int) ≤ x0_1) && decide (x0_1 < (↑(List.length a0) : Int)) then
      bif decide ((0 : Int) ≤ x0_1) && decide (x0_1 < (↑(List.length a0) : Int)) then
        bif decide (((0 : Nat) + List.length (List.getD a0 x0_1.toNat tySeg.dflt).snd) * (4 : Nat) ≤ maxBytes) then
          bif decide ((x0_2.length + (1 : Nat)) * (32 : Nat) ≤ maxBytes) then
            k0 (wI (x0_1 + (1 : Int)), x0_2 ++ [((List.getD a0 x0_1.toNat tySeg.dflt).fst, [] ++ (List.getD a0 x0_1.toNat tySeg.dflt).snd)])
          else
            none
        else
          none
      else
        none
    else
      none
  else
    some (x0_2, ())
noncomputable def Ref6_Copy.l0 (fuel : Nat) (a0 : (List TSeg)) (n : Nat) (s : (Int × (List TSeg))) : Option (List TSeg × Unit) :=
  iterN (fun k0 s => Ref6_Copy.b0 a0 k0 s) n s
noncomputable def Ref6_Copy.b (a0 : (List TSeg)) (i0 : Z27) : Option (List TSeg × Unit) :=
  i0 ((0 : Int), [])
noncomputable def Ref6_Copy.f (fuel : Nat) (a0 : (List TSeg)) : Option (List TSeg × Unit) := Ref6_Copy.b a0 (fun t => Ref6_Copy.l0 fuel a0 fuel t)
noncomputable def Ref6_Order.b1 (c0 : Bool × Unit → Option (Int × Unit)) (a0 : (List TSeg)) (a1 : (List TSeg)) (x0_2 : Int) (k0 : Int → Option (Int × Unit)) (k1 : Int → Option (Int × Unit)) (s : Int) : Option (Int × Unit) :=
  match s with
  | x1_3 =>
  bif decide ((0 : Int) ≤ x0_2) && decide (x0_2 < (↑(List.length a0) : Int)) then
    bif decide (x1_3 < (↑(List.length (List.getD a0 x0_2.toNat tySeg.dflt).snd) : Int)) then
      bif decide ((0 : Int) ≤ x0_2) && decide (x0_2 < (↑(List.length a0) : Int)) then
        bif decide ((0 : Int) ≤ x1_3) && decide (x1_3 < (↑(List.length (List.getD a0 x0_2.toNat tySeg.dflt).snd) : Int)) then
          bif decide ((0 : Int) ≤ x0_2) && decide (x0_2 < (↑(List.length a1) : Int)) then
            bif decide ((0 : Int) ≤ x1_3) && decide (x1_3 < (↑(List.length (List.getD a1 x0_2.toNat tySeg.dflt).snd) : Int)) then
              bif List.getD (List.getD a0 x0_2.toNat tySeg.dflt).snd x1_3.toNat (0 : Int) != List.getD (List.getD a1 x0_2.toNat tySeg.dflt).snd x1_3.toNat (0 : Int) then
                bif decide ((0 : Int) ≤ x0_2) && decide (x0_2 < (↑(List.length a0) : Int)) then
                  bif decide ((0 : Int) ≤ x1_3) && decide (x1_3 < (↑(List.length (List.getD a0 x0_2.toNat tySeg.dflt).snd) : Int)) then
                    bif decide ((0 : Int) ≤ x0_2) && decide (x0_2 < (↑(List.length a1) : Int)) then
                      bif decide ((0 : Int) ≤ x1_3) && decide (x1_3 < (↑(List.length (List.getD a1 x0_2.toNat tySeg.dflt).snd) : Int)) then
                        (c0 (decide (List.getD (List.getD a0 x0_2.toNat tySeg.dflt).snd x1_3.toNat (0 : Int) < List.getD (List.getD a1 x0_2.toNat tySeg.dflt).snd x1_3.toNat (0 : Int)), ())).bind fun r2 =>
                        some (r2.fst, ())
                      else
                        none
                    else
                      none
                  else
                    none
                else
                  none
              else
                k1 (wI (x1_3 + (1 : Int)))
            else
              none
          else
            none
        else
          none
      else
        none
    else
      k0 (wI (x0_2 + (1 : Int)))
  else
    none
noncomputable def Ref6_Order.l1 (c0 : Bool × Unit → Option (Int × Unit)) (fuel : Nat) (a0 : (List TSeg)) (a1 : (List TSeg)) (x0_2 : Int) (k0 : Int → Option (Int × Unit)) (n : Nat) (s : Int) : Option (Int × Unit) :=
  iterN (fun k1 s => Ref6_Order.b1 c0 a0 a1 x0_2 k0 k1 s) n s
noncomputable def Ref6_Order.b0 (c0 : Bool × Unit → Option (Int × Unit)) (a0 : (List TSeg)) (a1 : (List TSeg)) (i1 : Int → Int → Option (Int × Unit)) (k0 : Int → Option (Int × Unit)) (s : Int) : Option (Int × Unit) :=
  match s with
  | x0_2 =>
  bif decide (x0_2 < (↑(List.length a0) : Int)) then
    bif decide (x0_2 < (↑(List.length a1) : Int)) then
      bif decide ((0 : Int) ≤ x0_2) && decide (x0_2 < (↑(List.length a0) : Int)) then
        bif decide ((0 : Int) ≤ x0_2) && decide (x0_2 < (↑(List.length a1) : Int)) then
          bif (List.getD a0 x0_2.toNat tySeg.dflt).fst != (List.getD a1 x0_2.toNat tySeg.dflt).fst then
            bif decide ((0 : Int) ≤ x0_2) && decide (x0_2 < (↑(List.length a0) : Int)) then
              bif decide ((0 : Int) ≤ x0_2) && decide (x0_2 < (↑(List.length a1) : Int)) then
                (c0 (decide ((List.getD a0 x0_2.toNat tySeg.dflt).fst < (List.getD a1 x0_2.toNat tySeg.dflt).fst), ())).bind fun r4 =>
                some (r4.fst, ())
              else
                none
            else
              none
          else
            bif decide ((0 : Int) ≤ x0_2) && decide (x0_2 < (↑(List.length a0) : Int)) then
              bif decide ((0 : Int) ≤ x0_2) && decide (x0_2 < (↑(List.length a1) : Int)) then
                bif (↑(List.length (List.getD a0 x0_2.toNat tySeg.dflt).snd) : Int) != (↑(List.length (List.getD a1 x0_2.toNat tySeg.dflt).snd) : Int) then
                  bif decide ((0 : Int) ≤ x0_2) && decide (x0_2 < (↑(List.length a0) : Int)) then
                    bif decide ((0 : Int) ≤ x0_2) && decide (x0_2 < (↑(List.length a1) : Int)) then
                      (c0 (decide ((↑(List.length (List.getD a0 x0_2.toNat tySeg.dflt).snd) : Int) < (↑(List.length (List.getD a1 x0_2.toNat tySeg.dflt).snd) : Int)), ())).bind fun r3 =>
                      some (r3.fst, ())
                    else
                      none
                  else
                    none
                else
                  i1 x0_2 ((0 : Int))
              else
                none
            else
              none
        else
          none
      else
        none
    else
      bif (↑(List.length a0) : Int) != (↑(List.length a1) : Int) then
        (c0 (decide ((↑(List.length a0) : Int) < (↑(List.length a1) : Int)), ())).bind fun r1 =>
        some (r1.fst, ())
      else
        some ((0 : Int), ())
  else
    bif (↑(List.length a0) : Int) != (↑(List.length a1) : Int) then
      (c0 (decide ((↑(List.length a0) : Int) < (↑(List.length a1) : Int)), ())).bind fun r0 =>
      some (r0.fst, ())
    else
      some ((0 : Int), ())
noncomputable def Ref6_Order.l0 (c0 : Bool × Unit → Option (Int × Unit)) (fuel : Nat) (a0 : (List TSeg)) (a1 : (List TSeg)) (n : Nat) (s : Int) : Option (Int × Unit) :=
  iterN (fun k0 s => Ref6_Order.b0 c0 a0 a1 (fun x0_2 t => Ref6_Order.l1 c0 fuel a0 a1 x0_2 k0 fuel t) k0 s) n s
noncomputable def Ref6_Order.b (c0 : Bool × Unit → Option (Int × Unit)) (a0 : (List TSeg)) (a1 : (List TSeg)) (i0 : Int → Option (Int × Unit)) : Option (Int × Unit) :=
  i0 ((0 : Int))
noncomputable def Ref6_Order.f (c0 : Bool × Unit → Option (Int × Unit)) (fuel : Nat) (a0 : (List TSeg)) (a1 : (List TSeg)) : Option (Int × Unit) := Ref6_Order.b c0 a0 a1 (fun t => Ref6_Order.l0 c0 fuel a0 a1 fuel t)
noncomputable def Ref6_side.b (a0 : Bool) : Option (Int × Unit) :=
  bif a0 then
    some ((-1 : Int), ())
  else
    some ((1 : Int), ())
noncomputable def Ref6_side.f (fuel : Nat) (a0 : Bool) : Option (Int × Unit) := Ref6_side.b a0
noncomputable def Ref7_Canon.b0 (c0 : Z28) (c1 : Z2) (a0 : TAttrs) (k0 : Z29) (s : Z30) : Option (TAttrs × Unit) :=
  match s with
  | (x0_0, x0_1, x0_2, x0_3, x0_4, x0_5, x0_6, x0_7, x0_8, x0_9, x0_10, x0_11, x0_12, x0_13, x0_14, x0_15, x0_16, x0_17) =>
  bif decide (x0_0 < (↑x0_8.length : Int)) then
    bif decide ((0 : Int) ≤ x0_0) && decide (x0_0 < (↑x0_8.length : Int)) then
      (c1 (some x0_17, x0_8.getD x0_0.toNat (0 : Int), ())).bind fun r1 =>
      k0 (wI (x0_0 + (1 : Int)), x0_1, x0_2, x0_3, x0_4, x0_5, x0_6, x0_7, x0_8, x0_9, x0_10, x0_11, x0_12, x0_13, x0_14, x0_15, x0_16, r1.fst.fst)
    else
      none
  else
    some ((x0_1, x0_9, x0_2, x0_3, x0_4, x0_5, x0_6, x0_7, x0_17), ())
noncomputable def Ref7_Canon.l0 (c0 : Z28) (c1 : Z2) (fuel : Nat) (a0 : TAttrs) (n : Nat) (s : Z30) : Option (TAttrs × Unit) :=
  iterN (fun k0 s => Ref7_Canon.b0 c0 c1 a0 k0 s) n s
noncomputable def Ref7_Canon.b (c0 : Z28) (c1 : Z2) (a0 : TAttrs) (i0 : Z29) : Option (TAttrs × Unit) :=
  (c0 (a0.snd.fst, ())).bind fun r0 =>
  bif !a0.snd.snd.snd.fst then
    bif !a0.snd.snd.snd.snd.snd.fst then
      i0 ((0 : Int), a0.fst, a0.snd.snd.fst, a0.snd.snd.snd.fst, (0 : Int), a0.snd.snd.snd.snd.snd.fst, (0 : Int), a0.snd.snd.snd.snd.snd.snd.snd.fst, a0.snd.snd.snd.snd.snd.snd.snd.snd, r0.fst, (0 : Int), (0 : Int), false, (0 : Int), false, (0 : Int), false, [])
    else
      i0 ((0 : Int), a0.fst, a0.snd.snd.fst, a0.snd.snd.snd.fst, (0 : Int), a0.snd.snd.snd.snd.snd.fst, a0.snd.snd.snd.snd.snd.snd.fst, a0.snd.snd.snd.snd.snd.snd.snd.fst, a0.snd.snd.snd.snd.snd.snd.snd.snd, r0.fst, (0 : Int), (0 : Int), false, (0 : Int), false, (0 : Int), false, [])
  else
    bif !a0.snd.snd.snd.snd.snd.fst then
      i0 ((0 : Int), a0.fst, a0.snd.snd.fst, a0.snd.snd.snd.fst, a0.snd.snd.snd.snd.fst, a0.snd.snd.snd.snd.snd.fst, (0 : Int), a0.snd.snd.snd.snd.snd.snd.snd.fst, a0.snd.snd.snd.snd.snd.snd.snd.snd, r0.fst, (0 : Int), (0 : Int), false, (0 : Int), false, (0 : Int), false, [])
    else
      i0 ((0 : Int), a0.fst, a0.snd.snd.fst, a0.snd.snd.snd.fst, a0.snd.snd.snd.snd.fst, a0.snd.snd.snd.snd.snd.fst, a0.snd.snd.snd.snd.snd.snd.fst, a0.snd.snd.snd.snd.snd.snd.snd.fst, a0.snd.snd.snd.snd.snd.snd.snd.snd, r0.fst, (0 : Int), (0 : Int), false, (0 : Int), false, (0 : Int), false, [])
noncomputable def Ref7_Canon.f (c0 : Z28) (c1 : Z2) (fuel : Nat) (a0 : TAttrs) : Option (TAttrs × Unit) := Ref7_Canon.b c0 c1 a0 (fun t => Ref7_Canon.l0 c0 c1 fuel a0 fuel t)
noncomputable def Ref7_Order.b0 (c0 : Z31) (c1 : Bool × Unit → Option (Int × Unit)) (c2 : Z32) (a0 : TAttrs) (a1 : TAttrs) (k0 : Z33) (s : Z34) : Option (Int × Unit) :=
  match s with
  | (x0_0, x0_1, x0_2, x0_3, x0_4, x0_5, x0_6, x0_7, x0_8, x0_9, x0_10, x0_11, x0_12, x0_13, x0_14, x0_15, x0_16, x0_17, x0_18) =>
  bif decide (x0_0 < (↑x0_9.length : Int)) then
    bif decide (x0_0 < (↑x0_18.length : Int)) then
      bif decide ((0 : Int) ≤ x0_0) && decide (x0_0 < (↑x0_9.length : Int)) then
        bif decide ((0 : Int) ≤ x0_0) && decide (x0_0 < (↑x0_18.length : Int)) then
          bif x0_9.getD x0_0.toNat (0 : Int) != x0_18.getD x0_0.toNat (0 : Int) then
            bif decide ((0 : Int) ≤ x0_0) && decide (x0_0 < (↑x0_9.length : Int)) then
              bif decide ((0 : Int) ≤ x0_0) && decide (x0_0 < (↑x0_18.length : Int)) then
                (c1 (decide (x0_9.getD x0_0.toNat (0 : Int) < x0_18.getD x0_0.toNat (0 : Int)), ())).bind fun r5 =>
                some (r5.fst, ())
              else
                none
            else
              none
          else
            k0 (wI (x0_0 + (1 : Int)), x0_1, x0_2, x0_3, x0_4, x0_5, x0_6, x0_7, x0_8, x0_9, x0_10, x0_11, x0_12, x0_13, x0_14, x0_15, x0_16, x0_17, x0_18)
        else
          none
      else
        none
    else
      bif (↑x0_9.length : Int) != (↑x0_18.length : Int) then
        (c1 (decide ((↑x0_9.length : Int) < (↑x0_18.length : Int)), ())).bind fun r4 =>
        some (r4.fst, ())
      else
        some ((0 : Int), ())
  else
    bif (↑x0_9.length : Int) != (↑x0_18.length : Int) then
      (c1 (decide ((↑x0_9.length : Int) < (↑x0_18.length : Int)), ())).bind fun r3 =>
      some (r3.fst, ())
    else
      some ((0 : Int), ())
noncomputable def Ref7_Order.l0 (c0 : Z31) (c1 : Bool × Unit → Option (Int × Unit)) (c2 : Z32) (fuel : Nat) (a0 : TAttrs) (a1 : TAttrs) (n : Nat) (s : Z34) : Option (Int × Unit) :=
  iterN (fun k0 s => Ref7_Order.b0 c0 c1 c2 a0 a1 k0 s) n s
noncomputable def Ref7_Order.b (c0 : Z31) (c1 : Bool × Unit → Option (Int × Unit)) (c2 : Z32) (a0 : TAttrs) (a1 : TAttrs) (i0 : Z33) : Option (Int × Unit) :=
  (c0 (a0, ())).bind fun r0 =>
  (c0 (a1, ())).bind fun r1 =>
  bif r0.fst.fst != r1.fst.fst then
    (c1 (decide (r0.fst.fst < r1.fst.fst), ())).bind fun r12 =>
    some (r12.fst, ())
  else
    (c2 (r0.fst.snd.fst, r1.fst.snd.fst, ())).bind fun r2 =>
    bif r2.fst != (0 : Int) then
      some (r2.fst, ())
    else
      bif r0.fst.snd.snd.fst != r1.fst.snd.snd.fst then
        (c1 (decide (r0.fst.snd.snd.fst < r1.fst.snd.snd.fst), ())).bind fun r11 =>
        some (r11.fst, ())
      else
        bif !r0.fst.snd.snd.snd.fst == r1.fst.snd.snd.snd.fst then
          (c1 (!r0.fst.snd.snd.snd.fst, ())).bind fun r10 =>
          some (r10.fst, ())
        else
          bif r0.fst.snd.snd.snd.snd.fst != r1.fst.snd.snd.snd.snd.fst then
            (c1 (decide (r0.fst.snd.snd.snd.snd.fst < r1.fst.snd.snd.snd.snd.fst), ())).bind fun r9 =>
            some (r9.fst, ())
          else
            bif !r0.fst.snd.snd.snd.snd.snd.fst == r1.fst.snd.snd.snd.snd.snd.fst then
              (c1 (!r0.fst.snd.snd.snd.snd.snd.fst, ())).bind fun r8 =>
              some (r8.fst, ())
            else
              bif r0.fst.snd.snd.snd.snd.snd.snd.fst != r1.fst.snd.snd.snd.snd.snd.snd.fst then
                (c1 (decide (r0.fst.snd.snd.snd.snd.snd.snd.fst < r1.fst.snd.snd.snd.snd.snd.snd.fst), ())).bind fun r7 =>
                some (r7.fst, ())
              else
                bif !r0.fst.snd.snd.snd.snd.snd.snd.snd.fst == r1.fst.snd.snd.snd.snd.snd.snd.snd.fst then
                  (c1 (!r0.fst.snd.snd.snd.snd.snd.snd.snd.fst, ())).bind fun r6 =>
                  some (r6.fst, ())
                else
                  i0 ((0 : Int), r0.fst.fst, r0.fst.snd.fst, r0.fst.snd.snd.fst, r0.fst.snd.snd.snd.fst, r0.fst.snd.snd.snd.snd.fst, r0.fst.snd.snd.snd.snd.snd.fst, r0.fst.snd.snd.snd.snd.snd.snd.fst, r0.fst.snd.snd.snd.snd.snd.snd.snd.fst, r0.fst.snd.snd.snd.snd.snd.snd.snd.snd, r1.fst.fst, r1.fst.snd.fst, r1.fst.snd.snd.fst, r1.fst.snd.snd.snd.fst, r1.fst.snd.snd.snd.snd.fst, r1.fst.snd.snd.snd.snd.snd.fst, r1.fst.snd.snd.snd.snd.snd.snd.fst, r1.fst.snd.snd.snd.snd.snd.snd.snd.fst, r1.fst.snd.snd.snd.snd.snd.snd.snd.snd)
noncomputable def Ref7_Order.f (c0 : Z31) (c1 : Bool × Unit → Option (Int × Unit)) (c2 : Z32) (fuel : Nat) (a0 : TAttrs) (a1 : TAttrs) : Option (Int × Unit) := Ref7_Order.b c0 c1 c2 a0 a1 (fun t => Ref7_Order.l0 c0 c1 c2 fuel a0 a1 fuel t)
noncomputable def Ref7_Put.b0 (a0 : (List Int)) (a1 : Int) (k0 : Z35) (s : Int) : Z82 :=
  match s with
  | x0_1 =>
  bif decide (x0_1 < (↑a0.length : Int)) then
    bif decide ((0 : Int) ≤ x0_1) && decide (x0_1 < (↑a0.length : Int)) then
      bif decide (a0.getD x0_1.toNat (0 : Int) < a1) then
        k0 (wI (x0_1 + (1 : Int)))
      else
        bif decide (x0_1 < (↑a0.length : Int)) then
          bif decide ((0 : Int) ≤ x0_1) && decide (x0_1 < (↑a0.length : Int)) then
            bif a0.getD x0_1.toNat (0 : Int) == a1 then
              some ((a0, ()), (none, (a1, ())))
            else
              bif decide ((0 : Int) ≤ x0_1) && decide (x0_1 ≤ (↑a0.length : Int)) then
                bif decide (((0 : Nat) + (List.take (x0_1.toNat - (0 : Nat)) (List.drop (0 : Nat) a0)).length) * (4 : Nat) ≤ maxBytes) then
                  bif decide ((([] ++ List.take (x0_1.toNat - (0 : Nat)) (List.drop (0 : Nat) a0)).length + (1 : Nat)) * (4 : Nat) ≤ maxBytes) then
                    bif decide ((0 : Int) ≤ x0_1) && decide (x0_1 ≤ (↑a0.length : Int)) && decide ((↑a0.length : Int) ≤ (↑a0.length : Int)) then
                      bif decide ((([] ++ List.take (x0_1.toNat - (0 : Nat)) (List.drop (0 : Nat) a0) ++ [a1]).length + (List.take ((↑a0.length : Int).toNat - x0_1.toNat) (List.drop x0_1.toNat a0)).length) * (4 : Nat) ≤ maxBytes) then
                        some (([] ++ List.take (x0_1.toNat - (0 : Nat)) (List.drop (0 : Nat) a0) ++ [a1] ++ List.take ((↑a0.length : Int).toNat - x0_1.toNat) (List.drop x0_1.toNat a0), ()), (none, (a1, ())))
                      else
                        none
                    else
                      none
                  else
                    none
                else
                  none
              else
                none
          else
            none
        else
          bif decide ((0 : Int) ≤ x0_1) && decide (x0_1 ≤ (↑a0.length : Int)) then
            bif decide (((0 : Nat) + (List.take (x0_1.toNat - (0 : Nat)) (List.drop (0 : Nat) a0)).length) * (4 : Nat) ≤ maxBytes) then
              bif decide ((([] ++ List.take (x0_1.toNat - (0 : Nat)) (List.drop (0 : Nat) a0)).length + (1 : Nat)) * (4 : Nat) ≤ maxBytes) then
                bif decide ((0 : Int) ≤ x0_1) && decide (x0_1 ≤ (↑a0.length : Int)) && decide ((↑a0.length : Int) ≤ (↑a0.length : Int)) then
                  bif decide ((([] ++ List.take (x0_1.toNat - (0 : Nat)) (List.drop (0 : Nat) a0) ++ [a1]).length + (List.take ((↑a0.length : Int).toNat - x0_1.toNat) (List.drop x0_1.toNat a0)).length) * (4 : Nat) ≤ maxBytes) then
                    some (([] ++ List.take (x0_1.toNat - (0 : Nat)) (List.drop (0 : Nat) a0) ++ [a1] ++ List.take ((↑a0.length : Int).toNat - x0_1.toNat) (List.drop x0_1.toNat a0), ()), (none, (a1, ())))
                  else
                    none
                else
                  none
              else
                none
            else
              none
          else
            none
    else
      none
  else
    bif decide (x0_1 < (↑a0.length : Int)) then
      bif decide ((0 : Int) ≤ x0_1) && decide (x0_1 < (↑a0.length : Int)) then
        bif a0.getD x0_1.toNat (0 : Int) == a1 then
          some ((a0, ()), (none, (a1, ())))
        else
          bif decide ((0 : Int) ≤ x0_1) && decide (x0_1 ≤ (↑a0.length : Int)) then
            bif decide (((0 : Nat) + (List.take (x0_1.toNat - (0 : Nat)) (List.drop (0 : Nat) a0)).length) * (4 : Nat) ≤ maxBytes) then
              bif decide ((([] ++ List.take (x0_1.toNat - (0 : Nat)) (List.drop (0 : Nat) a0)).length + (1 : Nat)) * (4 : Nat) ≤ maxBytes) then
                bif decide ((0 : Int) ≤ x0_1) && decide (x0_1 ≤ (↑a0.length : Int)) && decide ((↑a0.length : Int) ≤ (↑a0.length : Int)) then
                  bif decide ((([] ++ List.take (x0_1.toNat - (0 : Nat)) (List.drop (0 : Nat) a0) ++ [a1]).length + (List.take ((↑a0.length : Int).toNat - x0_1.toNat) (List.drop x0_1.toNat a0)).length) * (4 : Nat) ≤ maxBytes) then
                    some (([] ++ List.take (x0_1.toNat - (0 : Nat)) (List.drop (0 : Nat) a0) ++ [a1] ++ List.take ((↑a0.length : Int).toNat - x0_1.toNat) (List.drop x0_1.toNat a0), ()), (none, (a1, ())))
                  else
                    none
                else
                  none
              else
                none
            else
              none
          else
            none
      else
        none
    else
      bif decide ((0 : Int) ≤ x0_1) && decide (x0_1 ≤ (↑a0.length : Int)) then
        bif decide (((0 : Nat) + (List.take (x0_1.toNat - (0 : Nat)) (List.drop (0 : Nat) a0)).length) * (4 : Nat) ≤ maxBytes) then
          bif decide ((([] ++ List.take (x0_1.toNat - (0 : Nat)) (List.drop (0 : Nat) a0)).length + (1 : Nat)) * (4 : Nat) ≤ maxBytes) then
            bif decide ((0 : Int) ≤ x0_1) && decide (x0_1 ≤ (↑a0.length : Int)) && decide ((↑a0.length : Int) ≤ (↑a0.length : Int)) then
              bif decide ((([] ++ List.take (x0_1.toNat - (0 : Nat)) (List.drop (0 : Nat) a0) ++ [a1]).length + (List.take ((↑a0.length : Int).toNat - x0_1.toNat) (List.drop x0_1.toNat a0)).length) * (4 : Nat) ≤ maxBytes) then
                some (([] ++ List.take (x0_1.toNat - (0 : Nat)) (List.drop (0 : Nat) a0) ++ [a1] ++ List.take ((↑a0.length : Int).toNat - x0_1.toNat) (List.drop x0_1.toNat a0), ()), (none, (a1, ())))
              else
                none
            else
              none
          else
            none
        else
          none
      else
        none
noncomputable def Ref7_Put.l0 (fuel : Nat) (a0 : (List Int)) (a1 : Int) (n : Nat) (s : Int) : Z82 :=
  iterN (fun k0 s => Ref7_Put.b0 a0 a1 k0 s) n s
noncomputable def Ref7_Put.b (a0 : (List Int)) (a1 : Int) (i0 : Z35) : Z82 :=
  i0 ((0 : Int))
noncomputable def Ref7_Put.f (fuel : Nat) (a0 : (List Int)) (a1 : Int) : Z82 := Ref7_Put.b a0 a1 (fun t => Ref7_Put.l0 fuel a0 a1 fuel t)
noncomputable def Ref7_Same.b (c0 : Z36) (a0 : TAttrs) (a1 : TAttrs) : Option (Bool × Unit) :=
  (c0 (a0, a1, ())).bind fun r0 =>
  some (r0.fst == (0 : Int), ())
noncomputable def Ref7_Same.f (c0 : Z36) (fuel : Nat) (a0 : TAttrs) (a1 : TAttrs) : Option (Bool × Unit) := Ref7_Same.b c0 a0 a1
noncomputable def Ref7_side.b (a0 : Bool) : Option (Int × Unit) :=
  bif a0 then
    some ((-1 : Int), ())
  else
    some ((1 : Int), ())
noncomputable def Ref7_side.f (fuel : Nat) (a0 : Bool) : Option (Int × Unit) := Ref7_side.b a0
noncomputable def addr_Cmp.b (c0 : Z24) (a0 : TPrefix) (a1 : TPrefix) : Option (Int × Unit) :=
  (c0 (a0, a1, ())).bind fun r0 =>
  bif r0.fst then
    some ((-1 : Int), ())
  else
    (c0 (a1, a0, ())).bind fun r1 =>
    bif r1.fst then
      some ((1 : Int), ())
    else
      some ((0 : Int), ())
noncomputable def addr_Cmp.f (c0 : Z24) (fuel : Nat) (a0 : TPrefix) (a1 : TPrefix) : Option (Int × Unit) := addr_Cmp.b c0 a0 a1
noncomputable def addr_Less.b (c0 : Z26) (a0 : TPrefix) (a1 : TPrefix) : Option (Bool × Unit) :=
  (c0 (a0, ())).bind fun r0 =>
  bif !r0.fst then
    some (false, ())
  else
    (c0 (a1, ())).bind fun r1 =>
    bif !r1.fst then
      some (false, ())
    else
      bif decide (a0.fst < a1.fst) then
        some (true, ())
      else
        bif a0.fst == a1.fst then
          some (decide (a0.snd < a1.snd), ())
        else
          some (false, ())
noncomputable def addr_Less.f (c0 : Z26) (fuel : Nat) (a0 : TPrefix) (a1 : TPrefix) : Option (Bool × Unit) := addr_Less.b c0 a0 a1
noncomputable def addr_Mask.b (a0 : Int) : Option (Int × Unit) :=
  bif decide (a0 < (1 : Int)) then
    some ((0 : Int), ())
  else
    bif decide ((0 : Int) ≤ wI ((32 : Int) - if (32 : Int) < a0 then (32 : Int) else a0)) then
      some (IntKind.u32.wrap ((4294967295 : Int) * (2 : Int) ^ Min.min (wI ((32 : Int) - if (32 : Int) < a0 then (32 : Int) else a0)).toNat IntKind.u32.bits), ())
    else
      none
noncomputable def addr_Mask.f (fuel : Nat) (a0 : Int) : Option (Int × Unit) := addr_Mask.b a0
noncomputable def addr_Right.b (c0 : Int × Unit → Option (Int × Unit)) (a0 : TPrefix) : Option (Bool × Unit) :=
  bif decide (a0.snd ≥ (0 : Int)) then
    bif decide (a0.snd ≤ (32 : Int)) then
      (c0 (a0.snd, ())).bind fun r0 =>
      some (IntKind.u32.wrap (↑(BitVec.ofInt IntKind.u32.bits a0.fst &&& ~~~BitVec.ofInt IntKind.u32.bits r0.fst).toNat : Int) == (0 : Int), ())
    else
      some (false, ())
  else
    some (false, ())
noncomputable def addr_Right.f (c0 : Int × Unit → Option (Int × Unit)) (fuel : Nat) (a0 : TPrefix) : Option (Bool × Unit) := addr_Right.b c0 a0
noncomputable def adjout_New.b : Option ((DOut × Unit) × (Unit)) :=
  some (((([], (0 : Nat)), [], (0 : Nat)), ()), ())
noncomputable def adjout_New.f (fuel : Nat) : Option ((DOut × Unit) × (Unit)) := adjout_New.b
noncomputable def adjout_Out_All.b (a0 : Tadjout_Out) : Option (List TPrefix × Unit) :=
  (sortedMap a0.fst.fst a0.fst.snd).bind fun r0 =>
  some (r0, ())
noncomputable def adjout_Out_All.f (fuel : Nat) (a0 : Tadjout_Out) : Option (List TPrefix × Unit) := adjout_Out_All.b a0
noncomputable def adjout_Out_Lack.b (a0 : DOut) (a1 : TPrefix) : Z83 :=
  some (((mapGet (keyEq tyPrefix) a1 a0.fst.fst).isSome, ()), (((mapDel (keyEq tyPrefix) a1 a0.fst.fst, a0.fst.snd), a0.snd), (a1, ())))
noncomputable def adjout_Out_Lack.f (fuel : Nat) (a0 : DOut) (a1 : TPrefix) : Z83 := adjout_Out_Lack.b a0 a1
noncomputable def adjout_Out_Pending.b1 (c0 : Z37) (c1 : Z38) (a0 : Tadjout_Out) (k1 : Z39) (s : Z40) : Option (List TPrefix × Unit) :=
  match s with
  | (x1_1, x1_2, x1_3, x1_4) =>
  bif x1_2.all fun (e : Nat × (tyPrefix.pair tyAttrs).den) => e.fst.blt x1_3 then
    amb (nextOf x1_2 x1_4) fun y1 =>
      match y1 with
      | none => (c1 (x1_1, (), ())).bind fun r2 =>
        some (r2.snd.fst, ())
      | some r3 =>
      bif (curOf x1_2 (x1_4 ++ [r3.fst])).isSome then
        bif !(mapGet (keyEq tyPrefix) ((Option.map (fun (e : Nat × (tyPrefix.pair tyAttrs).den) => e.snd.fst) (curOf x1_2 (x1_4 ++ [r3.fst]))).getD tyPrefix.dflt) a0.fst.fst).isSome then
          bif decide ((x1_1.length + (1 : Nat)) * (16 : Nat) ≤ maxBytes) then
            k1 (x1_1 ++ [(Option.map (fun (e : Nat × (tyPrefix.pair tyAttrs).den) => e.snd.fst) (curOf x1_2 (x1_4 ++ [r3.fst]))).getD tyPrefix.dflt], x1_2, x1_3, x1_4 ++ [r3.fst])
          else
            none
        else
          k1 (x1_1, x1_2, x1_3, x1_4 ++ [r3.fst])
      else
        none
  else
    none
noncomputable def adjout_Out_Pending.l1 (c0 : Z37) (c1 : Z38) (fuel : Nat) (a0 : Tadjout_Out) (n : Nat) (s : Z40) : Option (List TPrefix × Unit) :=
  iterN (fun k1 s => adjout_Out_Pending.b1 c0 c1 a0 k1 s) n s
noncomputable def adjout_Out_Pending.b0 (c0 : Z37) (c1 : Z38) (a0 : Tadjout_Out) (i1 : Z39) (k0 : Z39) (s : Z40) : Option (List TPrefix × Unit) :=
  match s with
  | (x0_1, x0_2, x0_3, x0_4) =>
  bif x0_2.all fun (e : Nat × (tyPrefix.pair tyAttrs).den) => e.fst.blt x0_3 then
    amb (nextOf x0_2 x0_4) fun y0 =>
      match y0 with
      | none => i1 (x0_1, a0.snd.fst, a0.snd.snd, [])
      | some r4 =>
      bif (curOf x0_2 (x0_4 ++ [r4.fst])).isSome then
        (c0 (a0, (Option.map (fun (e : Nat × (tyPrefix.pair tyAttrs).den) => e.snd.fst) (curOf x0_2 (x0_4 ++ [r4.fst]))).getD tyPrefix.dflt, ())).bind fun r5 =>
        bif r5.fst then
          bif decide ((x0_1.length + (1 : Nat)) * (16 : Nat) ≤ maxBytes) then
            k0 (x0_1 ++ [(Option.map (fun (e : Nat × (tyPrefix.pair tyAttrs).den) => e.snd.fst) (curOf x0_2 (x0_4 ++ [r4.fst]))).getD tyPrefix.dflt], x0_2, x0_3, x0_4 ++ [r4.fst])
          else
            none
        else
          k0 (x0_1, x0_2, x0_3, x0_4 ++ [r4.fst])
      else
        none
  else
    none
noncomputable def adjout_Out_Pending.l0 (c0 : Z37) (c1 : Z38) (fuel : Nat) (a0 : Tadjout_Out) (n : Nat) (s : Z40) : Option (List TPrefix × Unit) :=
  iterN (fun k0 s => adjout_Out_Pending.b0 c0 c1 a0 (fun t => adjout_Out_Pending.l1 c0 c1 fuel a0 fuel t) k0 s) n s
noncomputable def adjout_Out_Pending.b (c0 : Z37) (c1 : Z38) (a0 : Tadjout_Out) (i0 : Z39) : Option (List TPrefix × Unit) :=
  i0 ([], a0.fst.fst, a0.fst.snd, [])
noncomputable def adjout_Out_Pending.f (c0 : Z37) (c1 : Z38) (fuel : Nat) (a0 : Tadjout_Out) : Option (List TPrefix × Unit) := adjout_Out_Pending.b c0 c1 a0 (fun t => adjout_Out_Pending.l0 c0 c1 fuel a0 fuel t)
noncomputable def adjout_Out_Take.b0 (c0 : Z15) (c1 : Z16) (c2 : Z31) (a0 : DOut) (k0 : Z41) (s : Z42) : Z84 :=
  match s with
  | (x0_0, x0_1, x0_2, x0_3, x0_4, x0_5, x0_6, x0_7) =>
  bif decide (x0_1 < x0_0) then
    bif decide ((0 : Int) ≤ x0_1) && decide (x0_1 < (↑x0_7.length : Int)) then
      (c1 (((x0_2, x0_3), x0_4, x0_5), x0_7.getD x0_1.toNat tyPrefix.dflt, ())).bind fun r1 =>
      bif decide ((x0_6.length + (1 : Nat)) * (104 : Nat) ≤ maxBytes) then
        bif r1.fst.snd.fst then
          (c2 (r1.fst.fst, ())).bind fun r2 =>
          k0 (x0_0, wI (x0_1 + (1 : Int)), r1.snd.fst.fst.fst, r1.snd.fst.fst.snd, mapPut (keyEq tyPrefix) (x0_7.getD x0_1.toNat tyPrefix.dflt) r2.fst r1.snd.fst.snd.fst r1.snd.fst.snd.snd, mapNext (keyEq tyPrefix) (x0_7.getD x0_1.toNat tyPrefix.dflt) r1.snd.fst.snd.fst r1.snd.fst.snd.snd, x0_6 ++ [(x0_7.getD x0_1.toNat tyPrefix.dflt, r1.fst.fst, r1.fst.snd.fst)], x0_7)
        else
          k0 (x0_0, wI (x0_1 + (1 : Int)), r1.snd.fst.fst.fst, r1.snd.fst.fst.snd, mapDel (keyEq tyPrefix) (x0_7.getD x0_1.toNat tyPrefix.dflt) r1.snd.fst.snd.fst, r1.snd.fst.snd.snd, x0_6 ++ [(x0_7.getD x0_1.toNat tyPrefix.dflt, r1.fst.fst, r1.fst.snd.fst)], x0_7)
      else
        none
    else
      none
  else
    some ((x0_6, ()), (((x0_2, x0_3), x0_4, x0_5), ()))
noncomputable def adjout_Out_Take.l0 (c0 : Z15) (c1 : Z16) (c2 : Z31) (fuel : Nat) (a0 : DOut) (n : Nat) (s : Z42) : Z84 :=
  iterN (fun k0 s => adjout_Out_Take.b0 c0 c1 c2 a0 k0 s) n s
noncomputable def adjout_Out_Take.b (c0 : Z15) (c1 : Z16) (c2 : Z31) (a0 : DOut) (i0 : Z41) : Z84 :=
  (c0 (a0, ())).bind fun r0 =>
  i0 ((↑(List.length r0.fst) : Int), (0 : Int), a0.fst.fst, a0.fst.snd, a0.snd.fst, a0.snd.snd, [], r0.fst)
noncomputable def adjout_Out_Take.f (c0 : Z15) (c1 : Z16) (c2 : Z31) (fuel : Nat) (a0 : DOut) : Z84 := adjout_Out_Take.b c0 c1 c2 a0 (fun t => adjout_Out_Take.l0 c0 c1 c2 fuel a0 fuel t)
noncomputable def adjout_Out_Want.b (c0 : Z26) (c1 : Z43) (c2 : Z31) (a0 : DOut) (a1 : TPrefix) (a2 : TAttrs) : Z85 :=
  (c0 (a1, ())).bind fun r0 =>
  bif !r0.fst then
    some (((12 : Int), ()), (a0, (a1, (a2, ()))))
  else
    (c1 (a2, ())).bind fun r1 =>
    bif !r1.fst then
      some (((12 : Int), ()), (a0, (a1, (a2, ()))))
    else
      (c2 (a2, ())).bind fun r2 =>
      some (((0 : Int), ()), (((mapPut (keyEq tyPrefix) a1 r2.fst a0.fst.fst a0.fst.snd, mapNext (keyEq tyPrefix) a1 a0.fst.fst a0.fst.snd), a0.snd), (a1, (a2, ()))))
noncomputable def adjout_Out_Want.f (c0 : Z26) (c1 : Z43) (c2 : Z31) (fuel : Nat) (a0 : DOut) (a1 : TPrefix) (a2 : TAttrs) : Z85 := adjout_Out_Want.b c0 c1 c2 a0 a1 a2
noncomputable def adjout_Out_Wanted.b (c0 : Z44) (a0 : DOut) (a1 : TPrefix) : Z86 :=
  (c0 (a0.fst, a1, ())).bind fun r0 =>
  some ((r0.fst.fst, r0.fst.snd.fst, ()), ((r0.snd.fst, a0.snd), (a1, ())))
noncomputable def adjout_Out_Wanted.f (c0 : Z44) (fuel : Nat) (a0 : DOut) (a1 : TPrefix) : Z86 := adjout_Out_Wanted.b c0 a0 a1
noncomputable def adjout_Out_pending.b (c0 : Z14) (a0 : Tadjout_Out) (a1 : TPrefix) : Option (Bool × Unit) :=
  bif !(mapGet (keyEq tyPrefix) a1 a0.fst.fst).isSome == (mapGet (keyEq tyPrefix) a1 a0.snd.fst).isSome then
    some (true, ())
  else
    bif (mapGet (keyEq tyPrefix) a1 a0.fst.fst).isSome then
      (c0 ((mapGet (keyEq tyPrefix) a1 a0.fst.fst).getD tyAttrs.dflt, (mapGet (keyEq tyPrefix) a1 a0.snd.fst).getD tyAttrs.dflt, ())).bind fun r0 =>
      some (!r0.fst, ())
    else
      some (false, ())
noncomputable def adjout_Out_pending.f (c0 : Z14) (fuel : Nat) (a0 : Tadjout_Out) (a1 : TPrefix) : Option (Bool × Unit) := adjout_Out_pending.b c0 a0 a1
noncomputable def adjout_get.b (c0 : Z31) (a0 : Z45) (a1 : TPrefix) : Z87 :=
  bif !(mapGet (keyEq tyPrefix) a1 a0.fst).isSome then
    some ((((0 : Int), [], (0 : Int), false, (0 : Int), false, (0 : Int), false, []), false, ()), (a0, (a1, ())))
  else
    (c0 ((mapGet (keyEq tyPrefix) a1 a0.fst).getD tyAttrs.dflt, ())).bind fun r0 =>
    some ((r0.fst, true, ()), (a0, (a1, ())))
noncomputable def adjout_get.f (c0 : Z31) (fuel : Nat) (a0 : Z45) (a1 : TPrefix) : Z87 := adjout_get.b c0 a0 a1
noncomputable def aspath_Cmp.b (c0 : Z46) (a0 : (List TSeg)) (a1 : (List TSeg)) : Option (Int × Unit) :=
  (c0 (a0, a1, (), ())).bind fun r0 =>
  some (r0.fst.fst, ())
noncomputable def aspath_Cmp.f (c0 : Z46) (fuel : Nat) (a0 : (List TSeg)) (a1 : (List TSeg)) : Option (Int × Unit) := aspath_Cmp.b c0 a0 a1
noncomputable def aspath_Copy.b0 (c0 : Z47) (a0 : (List TSeg)) (k0 : Z48) (s : (Int × Int × (List TSeg))) : Option (List TSeg × Unit) :=
  match s with
  | (x0_1, x0_2, x0_3) =>
  bif decide (x0_2 < x0_1) then
    bif decide ((0 : Int) ≤ x0_2) && decide (x0_2 < (↑(List.length a0) : Int)) then
      (c0 ((List.getD a0 x0_2.toNat tySeg.dflt).snd, ())).bind fun r0 =>
      bif decide ((x0_3.length + (1 : Nat)) * (32 : Nat) ≤ maxBytes) then
        k0 (x0_1, wI (x0_2 + (1 : Int)), x0_3 ++ [((List.getD a0 x0_2.toNat tySeg.dflt).fst, r0.fst)])
      else
        none
    else
      none
  else
    some (x0_3, ())
noncomputable def aspath_Copy.l0 (c0 : Z47) (fuel : Nat) (a0 : (List TSeg)) (n : Nat) (s : (Int × Int × (List TSeg))) : Option (List TSeg × Unit) :=
  iterN (fun k0 s => aspath_Copy.b0 c0 a0 k0 s) n s
noncomputable def aspath_Copy.b (c0 : Z47) (a0 : (List TSeg)) (i0 : Z48) : Option (List TSeg × Unit) :=
  i0 ((↑(List.length a0) : Int), (0 : Int), [])
noncomputable def aspath_Copy.f (c0 : Z47) (fuel : Nat) (a0 : (List TSeg)) : Option (List TSeg × Unit) := aspath_Copy.b c0 a0 (fun t => aspath_Copy.l0 c0 fuel a0 fuel t)
noncomputable def aspath_Right.b0 (c0 : Z49) (a0 : (List TSeg)) (k0 : Z50) (s : (Int × Int)) : Option (Bool × Unit) :=
  match s with
  | (x0_2, x0_3) =>
  bif decide (x0_3 < x0_2) then
    bif decide ((0 : Int) ≤ x0_3) && decide (x0_3 < (↑(List.length a0) : Int)) then
      (c0 (List.getD a0 x0_3.toNat tySeg.dflt, ())).bind fun r0 =>
      bif !r0.fst then
        some (false, ())
      else
        k0 (x0_2, wI (x0_3 + (1 : Int)))
    else
      none
  else
    some (decide ((↑(List.length a0) : Int) ≤ (16 : Int)), ())
noncomputable def aspath_Right.l0 (c0 : Z49) (fuel : Nat) (a0 : (List TSeg)) (n : Nat) (s : (Int × Int)) : Option (Bool × Unit) :=
  iterN (fun k0 s => aspath_Right.b0 c0 a0 k0 s) n s
noncomputable def aspath_Right.b (c0 : Z49) (a0 : (List TSeg)) (i0 : Z50) : Option (Bool × Unit) :=
  i0 ((↑(List.length a0) : Int), (0 : Int))
noncomputable def aspath_Right.f (c0 : Z49) (fuel : Nat) (a0 : (List TSeg)) : Option (Bool × Unit) := aspath_Right.b c0 a0 (fun t => aspath_Right.l0 c0 fuel a0 fuel t)
noncomputable def aspath_compare.b (c0 : Z51) (c1 : Z52) (c2 : Z53) (a0 : TSeg) (a1 : TSeg) : Z88 :=
  (c0 (a0.fst, a1.fst, ())).bind fun r0 =>
  (c0 ((↑(List.length a0.snd) : Int), (↑(List.length a1.snd) : Int), ())).bind fun r1 =>
  (c1 (a0.snd, a1.snd, ())).bind fun r2 =>
  (c2 ([r0.fst, r1.fst, r2.fst], ())).bind fun r3 =>
  some ((r3.fst, ()), (a0, (a1, ())))
noncomputable def aspath_compare.f (c0 : Z51) (c1 : Z52) (c2 : Z53) (fuel : Nat) (a0 : TSeg) (a1 : TSeg) : Z88 := aspath_compare.b c0 c1 c2 a0 a1
noncomputable def aspath_right.b (a0 : TSeg) : Option (Bool × Unit) :=
  bif a0.fst == (1 : Int) then
    bif decide ((↑(List.length a0.snd) : Int) ≥ (1 : Int)) then
      some (decide ((↑(List.length a0.snd) : Int) ≤ (255 : Int)), ())
    else
      some (false, ())
  else
    bif a0.fst == (2 : Int) then
      bif decide ((↑(List.length a0.snd) : Int) ≥ (1 : Int)) then
        some (decide ((↑(List.length a0.snd) : Int) ≤ (255 : Int)), ())
      else
        some (false, ())
    else
      some (false, ())
noncomputable def aspath_right.f (fuel : Nat) (a0 : TSeg) : Option (Bool × Unit) := aspath_right.b a0
noncomputable def attr_Canon.b (c0 : Z28) (c2 : Z54) (c3 : Z55) (a0 : TAttrs) : Option (TAttrs × Unit) :=
  (c0 (a0.snd.fst, ())).bind fun r0 =>
  bif !a0.snd.snd.snd.fst then
    bif !a0.snd.snd.snd.snd.snd.fst then
      (c2 ((a0.snd.snd.snd.snd.snd.snd.snd.snd, ()), ())).bind fun r7 =>
      (c3 (some r7.fst.fst, ())).bind fun r8 =>
      some ((a0.fst, r0.fst, a0.snd.snd.fst, a0.snd.snd.snd.fst, (0 : Int), a0.snd.snd.snd.snd.snd.fst, (0 : Int), a0.snd.snd.snd.snd.snd.snd.snd.fst, r8.fst.fst), ())
    else
      (c2 ((a0.snd.snd.snd.snd.snd.snd.snd.snd, ()), ())).bind fun r5 =>
      (c3 (some r5.fst.fst, ())).bind fun r6 =>
      some ((a0.fst, r0.fst, a0.snd.snd.fst, a0.snd.snd.snd.fst, (0 : Int), a0.snd.snd.snd.snd.snd.fst, a0.snd.snd.snd.snd.snd.snd.fst, a0.snd.snd.snd.snd.snd.snd.snd.fst, r6.fst.fst), ())
  else
    bif !a0.snd.snd.snd.snd.snd.fst then
      (c2 ((a0.snd.snd.snd.snd.snd.snd.snd.snd, ()), ())).bind fun r3 =>
      (c3 (some r3.fst.fst, ())).bind fun r4 =>
      some ((a0.fst, r0.fst, a0.snd.snd.fst, a0.snd.snd.snd.fst, a0.snd.snd.snd.snd.fst, a0.snd.snd.snd.snd.snd.fst, (0 : Int), a0.snd.snd.snd.snd.snd.snd.snd.fst, r4.fst.fst), ())
    else
      (c2 ((a0.snd.snd.snd.snd.snd.snd.snd.snd, ()), ())).bind fun r1 =>
      (c3 (some r1.fst.fst, ())).bind fun r2 =>
      some ((a0.fst, r0.fst, a0.snd.snd.fst, a0.snd.snd.snd.fst, a0.snd.snd.snd.snd.fst, a0.snd.snd.snd.snd.snd.fst, a0.snd.snd.snd.snd.snd.snd.fst, a0.snd.snd.snd.snd.snd.snd.snd.fst, r2.fst.fst), ())
noncomputable def attr_Canon.f (c0 : Z28) (c2 : Z54) (c3 : Z55) (fuel : Nat) (a0 : TAttrs) : Option (TAttrs × Unit) := attr_Canon.b c0 c2 c3 a0
noncomputable def attr_Cmp.b (c0 : Z31) (c1 : Z51) (c2 : Z32) (c3 : Z51) (c4 : Bool × Unit → Option (Int × Unit)) (c5 : Z52) (c6 : Z53) (a0 : TAttrs) (a1 : TAttrs) : Option (Int × Unit) :=
  (c0 (a0, ())).bind fun r0 =>
  (c0 (a1, ())).bind fun r1 =>
  (c1 (r0.fst.fst, r1.fst.fst, ())).bind fun r2 =>
  (c2 (r0.fst.snd.fst, r1.fst.snd.fst, ())).bind fun r3 =>
  (c3 (r0.fst.snd.snd.fst, r1.fst.snd.snd.fst, ())).bind fun r4 =>
  (c4 (r0.fst.snd.snd.snd.fst, ())).bind fun r5 =>
  (c4 (r1.fst.snd.snd.snd.fst, ())).bind fun r6 =>
  (c3 (r0.fst.snd.snd.snd.snd.fst, r1.fst.snd.snd.snd.snd.fst, ())).bind fun r7 =>
  (c4 (r0.fst.snd.snd.snd.snd.snd.fst, ())).bind fun r8 =>
  (c4 (r1.fst.snd.snd.snd.snd.snd.fst, ())).bind fun r9 =>
  (c3 (r0.fst.snd.snd.snd.snd.snd.snd.fst, r1.fst.snd.snd.snd.snd.snd.snd.fst, ())).bind fun r10 =>
  (c4 (r0.fst.snd.snd.snd.snd.snd.snd.snd.fst, ())).bind fun r11 =>
  (c4 (r1.fst.snd.snd.snd.snd.snd.snd.snd.fst, ())).bind fun r12 =>
  (c5 (r0.fst.snd.snd.snd.snd.snd.snd.snd.snd, r1.fst.snd.snd.snd.snd.snd.snd.snd.snd, ())).bind fun r13 =>
  (c6 ([r2.fst, r3.fst, r4.fst, wI (r5.fst - r6.fst), r7.fst, wI (r8.fst - r9.fst), r10.fst, wI (r11.fst - r12.fst), r13.fst], ())).bind fun r14 =>
  some (r14.fst, ())
noncomputable def attr_Cmp.f (c0 : Z31) (c1 : Z51) (c2 : Z32) (c3 : Z51) (c4 : Bool × Unit → Option (Int × Unit)) (c5 : Z52) (c6 : Z53) (fuel : Nat) (a0 : TAttrs) (a1 : TAttrs) : Option (Int × Unit) := attr_Cmp.b c0 c1 c2 c3 c4 c5 c6 a0 a1
noncomputable def attr_Good.b (a0 : Int) : Option (Bool × Unit) :=
  bif Int.fdiv a0 ((2 : Int) ^ Min.min (24 : Nat) IntKind.u32.bits) != (0 : Int) then
    bif Int.fdiv a0 ((2 : Int) ^ Min.min (24 : Nat) IntKind.u32.bits) != (127 : Int) then
      some (decide (Int.fdiv a0 ((2 : Int) ^ Min.min (24 : Nat) IntKind.u32.bits) < (224 : Int)), ())
    else
      some (false, ())
  else
    some (false, ())
noncomputable def attr_Good.f (fuel : Nat) (a0 : Int) : Option (Bool × Unit) := attr_Good.b a0
noncomputable def attr_Right.b (c0 : Z56) (c1 : Int × Unit → Option (Bool × Unit)) (c2 : Z57) (a0 : TAttrs) : Option (Bool × Unit) :=
  bif decide (a0.fst < (0 : Int)) then
    some (false, ())
  else
    bif decide (a0.fst > (2 : Int)) then
      bif decide (a0.fst > (2 : Int)) then
        some (false, ())
      else
        bif decide ((↑(List.length a0.snd.snd.snd.snd.snd.snd.snd.snd) : Int) ≤ (32 : Int)) then
          (c2 (a0.snd.snd.snd.snd.snd.snd.snd.snd, ())).bind fun r9 =>
          some (r9.fst, ())
        else
          some (false, ())
    else
      (c0 (a0.snd.fst, ())).bind fun r0 =>
      bif !r0.fst then
        bif !r0.fst then
          some (false, ())
        else
          bif decide ((↑(List.length a0.snd.snd.snd.snd.snd.snd.snd.snd) : Int) ≤ (32 : Int)) then
            (c2 (a0.snd.snd.snd.snd.snd.snd.snd.snd, ())).bind fun r8 =>
            some (r8.fst, ())
          else
            some (false, ())
      else
        (c1 (a0.snd.snd.fst, ())).bind fun r1 =>
        bif !r1.fst then
          bif !r1.fst then
            some (false, ())
          else
            bif decide ((↑(List.length a0.snd.snd.snd.snd.snd.snd.snd.snd) : Int) ≤ (32 : Int)) then
              (c2 (a0.snd.snd.snd.snd.snd.snd.snd.snd, ())).bind fun r7 =>
              some (r7.fst, ())
            else
              some (false, ())
        else
          bif !a0.snd.snd.snd.fst then
            bif a0.snd.snd.snd.snd.fst != (0 : Int) then
              bif a0.snd.snd.snd.snd.fst != (0 : Int) then
                some (false, ())
              else
                bif decide ((↑(List.length a0.snd.snd.snd.snd.snd.snd.snd.snd) : Int) ≤ (32 : Int)) then
                  (c2 (a0.snd.snd.snd.snd.snd.snd.snd.snd, ())).bind fun r6 =>
                  some (r6.fst, ())
                else
                  some (false, ())
            else
              bif !a0.snd.snd.snd.snd.snd.fst then
                bif a0.snd.snd.snd.snd.snd.snd.fst != (0 : Int) then
                  some (false, ())
                else
                  bif decide ((↑(List.length a0.snd.snd.snd.snd.snd.snd.snd.snd) : Int) ≤ (32 : Int)) then
                    (c2 (a0.snd.snd.snd.snd.snd.snd.snd.snd, ())).bind fun r5 =>
                    some (r5.fst, ())
                  else
                    some (false, ())
              else
                bif decide ((↑(List.length a0.snd.snd.snd.snd.snd.snd.snd.snd) : Int) ≤ (32 : Int)) then
                  (c2 (a0.snd.snd.snd.snd.snd.snd.snd.snd, ())).bind fun r4 =>
                  some (r4.fst, ())
                else
                  some (false, ())
          else
            bif !a0.snd.snd.snd.snd.snd.fst then
              bif a0.snd.snd.snd.snd.snd.snd.fst != (0 : Int) then
                some (false, ())
              else
                bif decide ((↑(List.length a0.snd.snd.snd.snd.snd.snd.snd.snd) : Int) ≤ (32 : Int)) then
                  (c2 (a0.snd.snd.snd.snd.snd.snd.snd.snd, ())).bind fun r3 =>
                  some (r3.fst, ())
                else
                  some (false, ())
            else
              bif decide ((↑(List.length a0.snd.snd.snd.snd.snd.snd.snd.snd) : Int) ≤ (32 : Int)) then
                (c2 (a0.snd.snd.snd.snd.snd.snd.snd.snd, ())).bind fun r2 =>
                some (r2.fst, ())
              else
                some (false, ())
noncomputable def attr_Right.f (c0 : Z56) (c1 : Int × Unit → Option (Bool × Unit)) (c2 : Z57) (fuel : Nat) (a0 : TAttrs) : Option (Bool × Unit) := attr_Right.b c0 c1 c2 a0
noncomputable def attr_Same.b (c0 : Z36) (a0 : TAttrs) (a1 : TAttrs) : Option (Bool × Unit) :=
  (c0 (a0, a1, ())).bind fun r0 =>
  some (r0.fst == (0 : Int), ())
noncomputable def attr_Same.f (c0 : Z36) (fuel : Nat) (a0 : TAttrs) (a1 : TAttrs) : Option (Bool × Unit) := attr_Same.b c0 a0 a1
noncomputable def attr_rising.b0 (a0 : (List Int)) (k0 : Int → Option (Bool × Unit)) (s : Int) : Option (Bool × Unit) :=
  match s with
  | x0_1 =>
  bif decide (x0_1 < (↑(List.length a0) : Int)) then
    bif decide ((0 : Int) ≤ wI (x0_1 - (1 : Int))) && decide (wI (x0_1 - (1 : Int)) < (↑(List.length a0) : Int)) then
      bif decide ((0 : Int) ≤ x0_1) && decide (x0_1 < (↑(List.length a0) : Int)) then
        bif decide (List.getD a0 (wI (x0_1 - (1 : Int))).toNat (0 : Int) ≥ List.getD a0 x0_1.toNat (0 : Int)) then
          some (false, ())
        else
          k0 (wI (x0_1 + (1 : Int)))
      else
        none
    else
      none
  else
    some (true, ())
noncomputable def attr_rising.l0 (fuel : Nat) (a0 : (List Int)) (n : Nat) (s : Int) : Option (Bool × Unit) :=
  iterN (fun k0 s => attr_rising.b0 a0 k0 s) n s
noncomputable def attr_rising.b (a0 : (List Int)) (i0 : Int → Option (Bool × Unit)) : Option (Bool × Unit) :=
  i0 ((1 : Int))
noncomputable def attr_rising.f (fuel : Nat) (a0 : (List Int)) : Option (Bool × Unit) := attr_rising.b a0 (fun t => attr_rising.l0 fuel a0 fuel t)
noncomputable def attr_truth.b (a0 : Bool) : Option (Int × Unit) :=
  bif a0 then
    some ((1 : Int), ())
  else
    some ((0 : Int), ())
noncomputable def attr_truth.f (fuel : Nat) (a0 : Bool) : Option (Int × Unit) := attr_truth.b a0
noncomputable def cmp_Compare_int.b (c0 : Int × Unit → Option (Bool × Unit)) (a0 : Int) (a1 : Int) : Option (Int × Unit) :=
  (c0 (a0, ())).bind fun r0 =>
  (c0 (a1, ())).bind fun r1 =>
  bif r0.fst then
    bif r1.fst then
      some ((0 : Int), ())
    else
      some ((-1 : Int), ())
  else
    bif r1.fst then
      some ((1 : Int), ())
    else
      bif decide (a0 < a1) then
        some ((-1 : Int), ())
      else
        bif decide (a0 > a1) then
          some ((1 : Int), ())
        else
          some ((0 : Int), ())
noncomputable def cmp_Compare_int.f (c0 : Int × Unit → Option (Bool × Unit)) (fuel : Nat) (a0 : Int) (a1 : Int) : Option (Int × Unit) := cmp_Compare_int.b c0 a0 a1
noncomputable def cmp_Compare_uint32.b (c0 : Int × Unit → Option (Bool × Unit)) (a0 : Int) (a1 : Int) : Option (Int × Unit) :=
  (c0 (a0, ())).bind fun r0 =>
  (c0 (a1, ())).bind fun r1 =>
  bif r0.fst then
    bif r1.fst then
      some ((0 : Int), ())
    else
      some ((-1 : Int), ())
  else
    bif r1.fst then
      some ((1 : Int), ())
    else
      bif decide (a0 < a1) then
        some ((-1 : Int), ())
      else
        bif decide (a0 > a1) then
          some ((1 : Int), ())
        else
          some ((0 : Int), ())
noncomputable def cmp_Compare_uint32.f (c0 : Int × Unit → Option (Bool × Unit)) (fuel : Nat) (a0 : Int) (a1 : Int) : Option (Int × Unit) := cmp_Compare_uint32.b c0 a0 a1
noncomputable def cmp_Less_uint32.b (c0 : Int × Unit → Option (Bool × Unit)) (a0 : Int) (a1 : Int) : Option (Bool × Unit) :=
  (c0 (a0, ())).bind fun r0 =>
  bif r0.fst then
    (c0 (a1, ())).bind fun r1 =>
    bif !r1.fst then
      some (true, ())
    else
      some (decide (a0 < a1), ())
  else
    some (decide (a0 < a1), ())
noncomputable def cmp_Less_uint32.f (c0 : Int × Unit → Option (Bool × Unit)) (fuel : Nat) (a0 : Int) (a1 : Int) : Option (Bool × Unit) := cmp_Less_uint32.b c0 a0 a1
noncomputable def cmp_Or_int.b0 (a0 : (List Int)) (k0 : Z58) (s : (Int × Int × Int)) : Option (Int × Unit) :=
  match s with
  | (x0_0, x0_2, x0_3) =>
  bif decide (x0_3 < x0_2) then
    bif decide ((0 : Int) ≤ x0_3) && decide (x0_3 < (↑(List.length a0) : Int)) then
      bif List.getD a0 x0_3.toNat (0 : Int) != x0_0 then
        some (List.getD a0 x0_3.toNat (0 : Int), ())
      else
        k0 (x0_0, x0_2, wI (x0_3 + (1 : Int)))
    else
      none
  else
    some (x0_0, ())
noncomputable def cmp_Or_int.l0 (fuel : Nat) (a0 : (List Int)) (n : Nat) (s : (Int × Int × Int)) : Option (Int × Unit) :=
  iterN (fun k0 s => cmp_Or_int.b0 a0 k0 s) n s
noncomputable def cmp_Or_int.b (a0 : (List Int)) (i0 : Z58) : Option (Int × Unit) :=
  i0 ((0 : Int), (↑(List.length a0) : Int), (0 : Int))
noncomputable def cmp_Or_int.f (fuel : Nat) (a0 : (List Int)) : Option (Int × Unit) := cmp_Or_int.b a0 (fun t => cmp_Or_int.l0 fuel a0 fuel t)
noncomputable def cmp_isNaN_int.b (a0 : Int) : Option (Bool × Unit) :=
  some (a0 != a0, ())
noncomputable def cmp_isNaN_int.f (fuel : Nat) (a0 : Int) : Option (Bool × Unit) := cmp_isNaN_int.b a0
noncomputable def cmp_isNaN_uint32.b (a0 : Int) : Option (Bool × Unit) :=
  some (a0 != a0, ())
noncomputable def cmp_isNaN_uint32.f (fuel : Nat) (a0 : Int) : Option (Bool × Unit) := cmp_isNaN_uint32.b a0
noncomputable def math_bits_Len64.b (a0 : Int) : Option (Int × Unit) :=
  bif decide (a0 ≥ (4294967296 : Int)) then
    bif decide (Int.fdiv a0 ((2 : Int) ^ Min.min (32 : Nat) IntKind.u64.bits) ≥ (65536 : Int)) then
      bif decide ((Int.fdiv a0 ((2 : Int) ^ Min.min (32 : Nat) IntKind.u64.bits)).fdiv ((2 : Int) ^ Min.min (16 : Nat) IntKind.u64.bits) ≥ (256 : Int)) then
        none
      else
        none
    else
      bif decide (Int.fdiv a0 ((2 : Int) ^ Min.min (32 : Nat) IntKind.u64.bits) ≥ (256 : Int)) then
        none
      else
        none
  else
    bif decide (a0 ≥ (65536 : Int)) then
      bif decide (Int.fdiv a0 ((2 : Int) ^ Min.min (16 : Nat) IntKind.u64.bits) ≥ (256 : Int)) then
        none
      else
        none
    else
      bif decide (a0 ≥ (256 : Int)) then
        none
      else
        none
noncomputable def math_bits_Len64.f (fuel : Nat) (a0 : Int) : Option (Int × Unit) := math_bits_Len64.b a0
noncomputable def slices_Clone_uint32_uint32.b (a0 : (List Int)) : Option (List Int × Unit) :=
  amb (nilB (List.length a0)) fun y0 =>
    bif y0 then
      some ([], ())
    else
      bif decide (((0 : Nat) + List.length a0) * (4 : Nat) ≤ maxBytes) then
        some ([] ++ a0, ())
      else
        none
noncomputable def slices_Clone_uint32_uint32.f (fuel : Nat) (a0 : (List Int)) : Option (List Int × Unit) := slices_Clone_uint32_uint32.b a0
noncomputable def slices_Compact_uint32_uint32.b1 (a0 : (List Int)) (k0 : Z59) (k1 : Z60) (s : Z61) : Z89 :=
  match s with
  | (x1_0, x1_1, x1_2, x1_3, x1_4) =>
  bif decide (x1_3 < (↑x1_2 : Int)) then
    bif decide ((0 : Int) ≤ x1_3) && decide (x1_3 < (↑x1_2 : Int)) then
      bif decide ((0 : Int) ≤ wI (x1_3 - (1 : Int))) && decide (wI (x1_3 - (1 : Int)) < (↑x1_2 : Int)) then
        bif x1_4.getD (x1_1 + x1_3.toNat) (0 : Int) != x1_4.getD (x1_1 + (wI (x1_3 - (1 : Int))).toNat) (0 : Int) then
          bif decide ((0 : Int) ≤ x1_3) && decide (x1_3 < (↑x1_2 : Int)) then
            bif decide ((0 : Int) ≤ x1_0) && decide (x1_0 < (↑x1_4.length : Int)) then
              k1 (wI (x1_0 + (1 : Int)), x1_1, x1_2, wI (x1_3 + (1 : Int)), x1_4.set x1_0.toNat (x1_4.getD (x1_1 + x1_3.toNat) (0 : Int)))
            else
              none
          else
            none
        else
          k1 (x1_0, x1_1, x1_2, wI (x1_3 + (1 : Int)), x1_4)
      else
        none
    else
      none
  else
    bif decide ((0 : Int) ≤ x1_0) && decide (x1_0 ≤ (↑x1_4.length : Int)) && decide ((↑x1_4.length : Int) ≤ (↑x1_4.length : Int)) then
      none
    else
      none
noncomputable def slices_Compact_uint32_uint32.l1 (fuel : Nat) (a0 : (List Int)) (k0 : Z59) (n : Nat) (s : Z61) : Z89 :=
  iterN (fun k1 s => slices_Compact_uint32_uint32.b1 a0 k0 k1 s) n s
noncomputable def slices_Compact_uint32_uint32.b0 (a0 : (List Int)) (i1 : Z60) (k0 : Z59) (s : Int) : Z89 :=
  match s with
  | x0_0 =>
  bif decide (x0_0 < (↑a0.length : Int)) then
    bif decide ((0 : Int) ≤ x0_0) && decide (x0_0 < (↑a0.length : Int)) then
      bif decide ((0 : Int) ≤ wI (x0_0 - (1 : Int))) && decide (wI (x0_0 - (1 : Int)) < (↑a0.length : Int)) then
        bif a0.getD x0_0.toNat (0 : Int) == a0.getD (wI (x0_0 - (1 : Int))).toNat (0 : Int) then
          bif decide ((0 : Int) ≤ x0_0) && decide (x0_0 ≤ (↑a0.length : Int)) && decide ((↑a0.length : Int) ≤ (↑a0.length : Int)) then
            i1 (x0_0, x0_0.toNat, (↑a0.length : Int).toNat - x0_0.toNat, (1 : Int), a0)
          else
            none
        else
          k0 (wI (x0_0 + (1 : Int)))
      else
        none
    else
      none
  else
    some ((a0, ()), (none, ()))
noncomputable def slices_Compact_uint32_uint32.l0 (fuel : Nat) (a0 : (List Int)) (n : Nat) (s : Int) : Z89 :=
  iterN (fun k0 s => slices_Compact_uint32_uint32.b0 a0 (fun t => slices_Compact_uint32_uint32.l1 fuel a0 k0 fuel t) k0 s) n s
noncomputable def slices_Compact_uint32_uint32.b (a0 : (List Int)) (i0 : Z59) : Z89 :=
  bif decide ((↑a0.length : Int) < (2 : Int)) then
    some ((a0, ()), (none, ()))
  else
    i0 ((1 : Int))
noncomputable def slices_Compact_uint32_uint32.f (fuel : Nat) (a0 : (List Int)) : Z89 := slices_Compact_uint32_uint32.b a0 (fun t => slices_Compact_uint32_uint32.l0 fuel a0 fuel t)
noncomputable def slices_CompareFunc_api_Seg_api_Seg_api_Seg_api_Seg.b0 (c0 : Z62) (a0 : (List TSeg)) (a1 : (List TSeg)) (a2 : (Unit)) (k0 : Z63) (s : (Int × Int)) : Z90 :=
  match s with
  | (x0_3, x0_4) =>
  bif decide (x0_4 < x0_3) then
    bif decide ((0 : Int) ≤ x0_4) && decide (x0_4 < (↑(List.length a0) : Int)) then
      bif decide (x0_4 ≥ (↑(List.length a1) : Int)) then
        some (((1 : Int), ()), (a0, (a1, ((), ()))))
      else
        bif decide ((0 : Int) ≤ x0_4) && decide (x0_4 < (↑(List.length a1) : Int)) then
          (c0 (List.getD a0 x0_4.toNat tySeg.dflt, List.getD a1 x0_4.toNat tySeg.dflt, ())).bind fun r0 =>
          bif r0.fst.fst != (0 : Int) then
            some ((r0.fst.fst, ()), (a0, (a1, ((), ()))))
          else
            k0 (x0_3, wI (x0_4 + (1 : Int)))
        else
          none
    else
      none
  else
    bif decide ((↑(List.length a0) : Int) < (↑(List.length a1) : Int)) then
      some (((-1 : Int), ()), (a0, (a1, ((), ()))))
    else
      some (((0 : Int), ()), (a0, (a1, ((), ()))))
noncomputable def slices_CompareFunc_api_Seg_api_Seg_api_Seg_api_Seg.l0 (c0 : Z62) (fuel : Nat) (a0 : (List TSeg)) (a1 : (List TSeg)) (a2 : (Unit)) (n : Nat) (s : (Int × Int)) : Z90 :=
  iterN (fun k0 s => slices_CompareFunc_api_Seg_api_Seg_api_Seg_api_Seg.b0 c0 a0 a1 a2 k0 s) n s
noncomputable def slices_CompareFunc_api_Seg_api_Seg_api_Seg_api_Seg.b (c0 : Z62) (a0 : (List TSeg)) (a1 : (List TSeg)) (a2 : (Unit)) (i0 : Z63) : Z90 :=
  i0 ((↑(List.length a0) : Int), (0 : Int))
noncomputable def slices_CompareFunc_api_Seg_api_Seg_api_Seg_api_Seg.f (c0 : Z62) (fuel : Nat) (a0 : (List TSeg)) (a1 : (List TSeg)) (a2 : (Unit)) : Z90 := slices_CompareFunc_api_Seg_api_Seg_api_Seg_api_Seg.b c0 a0 a1 a2 (fun t => slices_CompareFunc_api_Seg_api_Seg_api_Seg_api_Seg.l0 c0 fuel a0 a1 a2 fuel t)
noncomputable def slices_Compare_uint32_uint32.b0 (c0 : Z51) (a0 : (List Int)) (a1 : (List Int)) (k0 : (Int × Int) → Option (Int × Unit)) (s : (Int × Int)) : Option (Int × Unit) :=
  match s with
  | (x0_3, x0_4) =>
  bif decide (x0_4 < x0_3) then
    bif decide ((0 : Int) ≤ x0_4) && decide (x0_4 < (↑(List.length a0) : Int)) then
      bif decide (x0_4 ≥ (↑(List.length a1) : Int)) then
        some ((1 : Int), ())
      else
        bif decide ((0 : Int) ≤ x0_4) && decide (x0_4 < (↑(List.length a1) : Int)) then
          (c0 (List.getD a0 x0_4.toNat (0 : Int), List.getD a1 x0_4.toNat (0 : Int), ())).bind fun r0 =>
          bif r0.fst != (0 : Int) then
            some (r0.fst, ())
          else
            k0 (x0_3, wI (x0_4 + (1 : Int)))
        else
          none
    else
      none
  else
    bif decide ((↑(List.length a0) : Int) < (↑(List.length a1) : Int)) then
      some ((-1 : Int), ())
    else
      some ((0 : Int), ())
noncomputable def slices_Compare_uint32_uint32.l0 (c0 : Z51) (fuel : Nat) (a0 : (List Int)) (a1 : (List Int)) (n : Nat) (s : (Int × Int)) : Option (Int × Unit) :=
  iterN (fun k0 s => slices_Compare_uint32_uint32.b0 c0 a0 a1 k0 s) n s
noncomputable def slices_Compare_uint32_uint32.b (c0 : Z51) (a0 : (List Int)) (a1 : (List Int)) (i0 : (Int × Int) → Option (Int × Unit)) : Option (Int × Unit) :=
  i0 ((↑(List.length a0) : Int), (0 : Int))
noncomputable def slices_Compare_uint32_uint32.f (c0 : Z51) (fuel : Nat) (a0 : (List Int)) (a1 : (List Int)) : Option (Int × Unit) := slices_Compare_uint32_uint32.b c0 a0 a1 (fun t => slices_Compare_uint32_uint32.l0 c0 fuel a0 a1 fuel t)
noncomputable def slices_Sort_uint32_uint32.b (c0 : Int × Unit → Option (Int × Unit)) (c1 : Z64) (a0 : (List Int)) : Z91 :=
  (c0 (IntKind.u64.wrap (↑(List.length a0) : Int), ())).bind fun r0 =>
  (c1 (a0, (0 : Int), (↑(List.length a0) : Int), r0.fst, ())).bind fun r1 =>
  some ((), (r1.snd.fst, ()))
noncomputable def slices_Sort_uint32_uint32.f (c0 : Int × Unit → Option (Int × Unit)) (c1 : Z64) (fuel : Nat) (a0 : (List Int)) : Z91 := slices_Sort_uint32_uint32.b c0 c1 a0
noncomputable def slices_Sorted_uint32.b (c1 : Z65) (a0 : ((List Int) × Unit)) : Z92 :=
  (collected a0.fst).bind fun r0 =>
  (c1 (r0, ())).bind fun r1 =>
  some ((r1.snd.fst, ()), ((a0.fst, ()), ()))
noncomputable def slices_Sorted_uint32.f (c1 : Z65) (fuel : Nat) (a0 : ((List Int) × Unit)) : Z92 := slices_Sorted_uint32.b c1 a0
noncomputable def slices_choosePivotOrdered_uint32.b (c0 : Z66) (c1 : Z67) (a0 : (List Int)) (a1 : Int) (a2 : Int) : Z93 :=
  bif decide (wI (a2 - a1) ≥ (8 : Int)) then
    bif decide (wI (a2 - a1) ≥ (50 : Int)) then
      (c0 (a0, wI (a1 + wI (wI ((wI (a2 - a1)).tdiv (4 : Int)) * (1 : Int))), (0 : Int), ())).bind fun r1 =>
      (c0 (r1.snd.fst, wI (a1 + wI (wI ((wI (a2 - a1)).tdiv (4 : Int)) * (2 : Int))), r1.snd.snd.snd.fst, ())).bind fun r2 =>
      (c0 (r2.snd.fst, wI (a1 + wI (wI ((wI (a2 - a1)).tdiv (4 : Int)) * (3 : Int))), r2.snd.snd.snd.fst, ())).bind fun r3 =>
      (c1 (r3.snd.fst, r1.fst.fst, r2.fst.fst, r3.fst.fst, r3.snd.snd.snd.fst, ())).bind fun r4 =>
      bif r4.snd.snd.snd.snd.snd.fst == (0 : Int) then
        some ((r4.fst.fst, (1 : Int), ()), (r4.snd.fst, (a1, (a2, ()))))
      else
        bif r4.snd.snd.snd.snd.snd.fst == (12 : Int) then
          some ((r4.fst.fst, (2 : Int), ()), (r4.snd.fst, (a1, (a2, ()))))
        else
          some ((r4.fst.fst, (0 : Int), ()), (r4.snd.fst, (a1, (a2, ()))))
    else
      (c1 (a0, wI (a1 + wI (wI ((wI (a2 - a1)).tdiv (4 : Int)) * (1 : Int))), wI (a1 + wI (wI ((wI (a2 - a1)).tdiv (4 : Int)) * (2 : Int))), wI (a1 + wI (wI ((wI (a2 - a1)).tdiv (4 : Int)) * (3 : Int))), (0 : Int), ())).bind fun r0 =>
      bif r0.snd.snd.snd.snd.snd.fst == (0 : Int) then
        some ((r0.fst.fst, (1 : Int), ()), (r0.snd.fst, (a1, (a2, ()))))
      else
        bif r0.snd.snd.snd.snd.snd.fst == (12 : Int) then
          some ((r0.fst.fst, (2 : Int), ()), (r0.snd.fst, (a1, (a2, ()))))
        else
          some ((r0.fst.fst, (0 : Int), ()), (r0.snd.fst, (a1, (a2, ()))))
  else
    some ((wI (a1 + wI (wI ((wI (a2 - a1)).tdiv (4 : Int)) * (2 : Int))), (1 : Int), ()), (a0, (a1, (a2, ()))))
noncomputable def slices_choosePivotOrdered_uint32.f (c0 : Z66) (c1 : Z67) (fuel : Nat) (a0 : (List Int)) (a1 : Int) (a2 : Int) : Z93 := slices_choosePivotOrdered_uint32.b c0 c1 a0 a1 a2
noncomputable def slices_insertionSortOrdered_uint32.b1 (c0 : Z68) (a0 : (List Int)) (a1 : Int) (a2 : Int) (x0_2 : Int) (k0 : Z69) (k1 : Z69) (s : (Int × (List Int))) : Z94 :=
  match s with
  | (x1_3, x1_6) =>
  let v0 := wI (x0_2 + (1 : Int))
  bif decide (x1_3 > a1) then
    let v1 := ib x1_3 x1_6.length
    grd (v1) <|
    let v2 := wI (x1_3 - (1 : Int))
    let v3 := ib v2 x1_6.length
    grd (v3) <|
    let v4 := x1_6.getD x1_3.toNat (0 : Int)
    let v5 := v2.toNat
    let v6 := x1_6.getD v5 (0 : Int)
    (c0 (v4, v6, ())).bind fun r0 =>
    bif r0.fst then
      grd (v3) <|
      grd (v1) <|
      grd (v1) <|
      let v7 := x1_6.set x1_3.toNat v6
      grd (ib v2 v7.length) <|
      k1 (v2, v7.set v5 v4)
    else
      k0 (v0, x1_6)
  else
    k0 (v0, x1_6)
noncomputable def slices_insertionSortOrdered_uint32.l1 (c0 : Z68) (fuel : Nat) (a0 : (List Int)) (a1 : Int) (a2 : Int) (x0_2 : Int) (k0 : Z69) (n : Nat) (s : (Int × (List Int))) : Z94 :=
  iterN (fun k1 s => slices_insertionSortOrdered_uint32.b1 c0 a0 a1 a2 x0_2 k0 k1 s) n s
noncomputable def slices_insertionSortOrdered_uint32.b0 (c0 : Z68) (a0 : (List Int)) (a1 : Int) (a2 : Int) (i1 : Z70) (k0 : Z69) (s : (Int × (List Int))) : Z94 :=
  match s with
  | (x0_2, x0_5) =>
  bif decide (x0_2 < a2) then
    i1 x0_2 (x0_2, x0_5)
  else
    some ((), x0_5, a1, a2, ())
noncomputable def slices_insertionSortOrdered_uint32.l0 (c0 : Z68) (fuel : Nat) (a0 : (List Int)) (a1 : Int) (a2 : Int) (n : Nat) (s : (Int × (List Int))) : Z94 :=
  iterN (fun k0 s => slices_insertionSortOrdered_uint32.b0 c0 a0 a1 a2 (fun x0_2 t => slices_insertionSortOrdered_uint32.l1 c0 fuel a0 a1 a2 x0_2 k0 fuel t) k0 s) n s
noncomputable def slices_insertionSortOrdered_uint32.b (c0 : Z68) (a0 : (List Int)) (a1 : Int) (a2 : Int) (i0 : Z69) : Z94 :=
  i0 (wI (a1 + (1 : Int)), a0)
noncomputable def slices_insertionSortOrdered_uint32.f (c0 : Z68) (fuel : Nat) (a0 : (List Int)) (a1 : Int) (a2 : Int) : Z94 := slices_insertionSortOrdered_uint32.b c0 a0 a1 a2 (fun t => slices_insertionSortOrdered_uint32.l0 c0 fuel a0 a1 a2 fuel t)
noncomputable def slices_medianAdjacentOrdered_uint32.b (c0 : Z67) (a0 : (List Int)) (a1 : Int) (a2 : Int) : Z95 :=
  (c0 (a0, wI (a1 - (1 : Int)), a1, wI (a1 + (1 : Int)), a2, ())).bind fun r0 =>
  some ((r0.fst.fst, ()), (r0.snd.fst, (a1, (r0.snd.snd.snd.snd.snd.fst, ()))))
noncomputable def slices_medianAdjacentOrdered_uint32.f (c0 : Z67) (fuel : Nat) (a0 : (List Int)) (a1 : Int) (a2 : Int) : Z95 := slices_medianAdjacentOrdered_uint32.b c0 a0 a1 a2
noncomputable def slices_medianOrdered_uint32.b (c0 : Z71) (a0 : (List Int)) (a1 : Int) (a2 : Int) (a3 : Int) (a4 : Int) : Z96 :=
  (c0 (a0, a1, a2, a4, ())).bind fun r0 =>
  (c0 (r0.snd.fst, r0.fst.snd.fst, a3, r0.snd.snd.snd.snd.fst, ())).bind fun r1 =>
  (c0 (r1.snd.fst, r0.fst.fst, r1.fst.fst, r1.snd.snd.snd.snd.fst, ())).bind fun r2 =>
  some ((r2.fst.snd.fst, ()), (r2.snd.fst, (a1, (a2, (a3, (r2.snd.snd.snd.snd.fst, ()))))))
noncomputable def slices_medianOrdered_uint32.f (c0 : Z71) (fuel : Nat) (a0 : (List Int)) (a1 : Int) (a2 : Int) (a3 : Int) (a4 : Int) : Z96 := slices_medianOrdered_uint32.b c0 a0 a1 a2 a3 a4
noncomputable def slices_order2Ordered_uint32.b (c0 : Z68) (a0 : (List Int)) (a1 : Int) (a2 : Int) (a3 : Int) : Z97 :=
  bif decide ((0 : Int) ≤ a2) && decide (a2 < (↑(List.length a0) : Int)) then
    bif decide ((0 : Int) ≤ a1) && decide (a1 < (↑(List.length a0) : Int)) then
      (c0 (List.getD a0 (Int.toNat a2) (0 : Int), List.getD a0 (Int.toNat a1) (0 : Int), ())).bind fun r0 =>
      bif r0.fst then
        some ((a2, a1, ()), (a0, (a1, (a2, (wI (a3 + (1 : Int)), ())))))
      else
        some ((a1, a2, ()), (a0, (a1, (a2, (a3, ())))))
    else
      none
  else
    none
noncomputable def slices_order2Ordered_uint32.f (c0 : Z68) (fuel : Nat) (a0 : (List Int)) (a1 : Int) (a2 : Int) (a3 : Int) : Z97 := slices_order2Ordered_uint32.b c0 a0 a1 a2 a3
noncomputable def slices_partialInsertionSortOrdered_uint32.b3 (c0 : Z68) (a0 : (List Int)) (a1 : Int) (a2 : Int) (x1_2 : Int) (x0_3 : Int) (k0 : Z72) (k3 : Z73) (s : (Int × (List Int))) : Z98 :=
  match s with
  | (x3_4, x3_7) =>
  let v0 := wI (x0_3 + (1 : Int))
  bif decide (x3_4 < a2) then
    let v1 := ib x3_4 x3_7.length
    grd (v1) <|
    let v2 := wI (x3_4 - (1 : Int))
    let v3 := ib v2 x3_7.length
    grd (v3) <|
    let v4 := x3_7.getD x3_4.toNat (0 : Int)
    let v5 := v2.toNat
    let v6 := x3_7.getD v5 (0 : Int)
    (c0 (v4, v6, ())).bind fun r0 =>
    bif !r0.fst then
      k0 (x1_2, v0, x3_7)
    else
      grd (v3) <|
      grd (v1) <|
      grd (v1) <|
      let v7 := x3_7.set x3_4.toNat v6
      grd (ib v2 v7.length) <|
      k3 (wI (x3_4 + (1 : Int)), v7.set v5 v4)
  else
    k0 (x1_2, v0, x3_7)
noncomputable def slices_partialInsertionSortOrdered_uint32.l3 (c0 : Z68) (fuel : Nat) (a0 : (List Int)) (a1 : Int) (a2 : Int) (x1_2 : Int) (x0_3 : Int) (k0 : Z72) (n : Nat) (s : (Int × (List Int))) : Z98 :=
  iterN (fun k3 s => slices_partialInsertionSortOrdered_uint32.b3 c0 a0 a1 a2 x1_2 x0_3 k0 k3 s) n s
noncomputable def slices_partialInsertionSortOrdered_uint32.b2 (c0 : Z68) (a0 : (List Int)) (a1 : Int) (a2 : Int) (x1_2 : Int) (x0_3 : Int) (i3 : Z74) (k0 : Z72) (k2 : Z73) (s : (Int × (List Int))) : Z98 :=
  match s with
  | (x2_4, x2_7) =>
  let v8 := wI (x1_2 + (1 : Int))
  let v9 := wI (x0_3 + (1 : Int))
  let v10 := decide (wI (a2 - x1_2) ≥ (2 : Int))
  bif decide (x2_4 ≥ (1 : Int)) then
    let v11 := ib x2_4 x2_7.length
    grd (v11) <|
    let v12 := wI (x2_4 - (1 : Int))
    let v13 := ib v12 x2_7.length
    grd (v13) <|
    let v14 := x2_7.getD x2_4.toNat (0 : Int)
    let v15 := v12.toNat
    let v16 := x2_7.getD v15 (0 : Int)
    (c0 (v14, v16, ())).bind fun r1 =>
    bif !r1.fst then
      bif v10 then
        i3 x1_2 x0_3 (v8, x2_7)
      else
        k0 (x1_2, v9, x2_7)
    else
      grd (v13) <|
      grd (v11) <|
      grd (v11) <|
      let v17 := x2_7.set x2_4.toNat v16
      grd (ib v12 v17.length) <|
      k2 (v12, v17.set v15 v14)
  else
    bif v10 then
      i3 x1_2 x0_3 (v8, x2_7)
    else
      k0 (x1_2, v9, x2_7)
noncomputable def slices_partialInsertionSortOrdered_uint32.l2 (c0 : Z68) (fuel : Nat) (a0 : (List Int)) (a1 : Int) (a2 : Int) (x1_2 : Int) (x0_3 : Int) (k0 : Z72) (n : Nat) (s : (Int × (List Int))) : Z98 :=
  iterN (fun k2 s => slices_partialInsertionSortOrdered_uint32.b2 c0 a0 a1 a2 x1_2 x0_3 (fun x1_2 x0_3 t => slices_partialInsertionSortOrdered_uint32.l3 c0 fuel a0 a1 a2 x1_2 x0_3 k0 fuel t) k0 k2 s) n s
noncomputable def slices_partialInsertionSortOrdered_uint32.b1 (c0 : Z68) (a0 : (List Int)) (a1 : Int) (a2 : Int) (x0_3 : Int) (x0_6 : (List Int)) (i3 : Z74) (i2 : Z74) (k0 : Z72) (k1 : Z75) (s : Int) : Z98 :=
  match s with
  | x1_2 =>
  let v18 := ib x1_2 x0_6.length
  let v19 := x0_6.getD x1_2.toNat (0 : Int)
  let v20 := wI (x1_2 - (1 : Int))
  let v21 := wI (x1_2 + (1 : Int))
  let v22 := wI (x0_3 + (1 : Int))
  let v23 := v20.toNat
  let v24 := ib v20 x0_6.length
  let v25 := x0_6.getD v23 (0 : Int)
  let v26 := x0_6.set x1_2.toNat v25
  let v27 := decide (wI (a2 - a1) < (50 : Int))
  let v28 := decide (wI (a2 - x1_2) ≥ (2 : Int))
  let v29 := decide (wI (x1_2 - a1) ≥ (2 : Int))
  let v30 := ib v20 v26.length
  let v31 := v26.set v23 v19
  bif decide (x1_2 < a2) then
    grd (v18) <|
    grd (v24) <|
    (c0 (v19, v25, ())).bind fun r2 =>
    bif !r2.fst then
      k1 v21
    else
      bif x1_2 == a2 then
        some ((true, ()), x0_6, a1, a2, ())
      else
        bif v27 then
          some ((false, ()), x0_6, a1, a2, ())
        else
          grd (v24) <|
          grd (v18) <|
          grd (v18) <|
          grd (v30) <|
          bif v29 then
            i2 x1_2 x0_3 (v20, v31)
          else
            bif v28 then
              i3 x1_2 x0_3 (v21, v31)
            else
              k0 (x1_2, v22, v31)
  else
    bif x1_2 == a2 then
      some ((true, ()), x0_6, a1, a2, ())
    else
      bif v27 then
        some ((false, ()), x0_6, a1, a2, ())
      else
        grd (v24) <|
        grd (v18) <|
        grd (v18) <|
        grd (v30) <|
        bif v29 then
          i2 x1_2 x0_3 (v20, v31)
        else
          bif v28 then
            i3 x1_2 x0_3 (v21, v31)
          else
            k0 (x1_2, v22, v31)
noncomputable def slices_partialInsertionSortOrdered_uint32.l1 (c0 : Z68) (fuel : Nat) (a0 : (List Int)) (a1 : Int) (a2 : Int) (x0_3 : Int) (x0_6 : (List Int)) (k0 : Z72) (n : Nat) (s : Int) : Z98 :=
  iterN (fun k1 s => slices_partialInsertionSortOrdered_uint32.b1 c0 a0 a1 a2 x0_3 x0_6 (fun x1_2 x0_3 t => slices_partialInsertionSortOrdered_uint32.l3 c0 fuel a0 a1 a2 x1_2 x0_3 k0 fuel t) (fun x1_2 x0_3 t => slices_partialInsertionSortOrdered_uint32.l2 c0 fuel a0 a1 a2 x1_2 x0_3 k0 fuel t) k0 k1 s) n s
noncomputable def slices_partialInsertionSortOrdered_uint32.b0 (c0 : Z68) (a0 : (List Int)) (a1 : Int) (a2 : Int) (i1 : Z76) (k0 : Z72) (s : (Int × Int × (List Int))) : Z98 :=
  match s with
  | (x0_2, x0_3, x0_6) =>
  bif decide (x0_3 < (5 : Int)) then
    i1 x0_3 x0_6 x0_2
  else
    some ((false, ()), x0_6, a1, a2, ())
noncomputable def slices_partialInsertionSortOrdered_uint32.l0 (c0 : Z68) (fuel : Nat) (a0 : (List Int)) (a1 : Int) (a2 : Int) (n : Nat) (s : (Int × Int × (List Int))) : Z98 :=
  iterN (fun k0 s => slices_partialInsertionSortOrdered_uint32.b0 c0 a0 a1 a2 (fun x0_3 x0_6 t => slices_partialInsertionSortOrdered_uint32.l1 c0 fuel a0 a1 a2 x0_3 x0_6 k0 fuel t) k0 s) n s
noncomputable def slices_partialInsertionSortOrdered_uint32.b (c0 : Z68) (a0 : (List Int)) (a1 : Int) (a2 : Int) (i0 : Z72) : Z98 :=
  i0 (wI (a1 + (1 : Int)), (0 : Int), a0)
noncomputable def slices_partialInsertionSortOrdered_uint32.f (c0 : Z68) (fuel : Nat) (a0 : (List Int)) (a1 : Int) (a2 : Int) : Z98 := slices_partialInsertionSortOrdered_uint32.b c0 a0 a1 a2 (fun t => slices_partialInsertionSortOrdered_uint32.l0 c0 fuel a0 a1 a2 fuel t)
noncomputable def slices_pdqsortOrdered_uint32.b0 (c0 : Z77) (c1 : Z78) (c2 : Z79) (a0 : (List Int)) (a1 : Int) (a2 : Int) (a3 : Int) (k0 : Z80) (s : (Bool × Bool)) : Z99 :=
  match s with
  | (x0_3, x0_4) =>
  bif decide (wI (a2 - a1) ≤ (12 : Int)) then
    (c0 (a0, a1, a2, ())).bind fun r2 =>
    some ((), (r2.snd.fst, (a1, (a2, (a3, ())))))
  else
    bif a3 == (0 : Int) then
      none
    else
      bif !x0_3 then
        none
      else
        (c1 (a0, a1, a2, ())).bind fun r0 =>
        bif r0.fst.snd.fst == (2 : Int) then
          none
        else
          bif x0_3 then
            bif x0_4 then
              bif r0.fst.snd.fst == (1 : Int) then
                (c2 (r0.snd.fst, a1, a2, ())).bind fun r1 =>
                bif r1.fst.fst then
                  some ((), (r1.snd.fst, (a1, (a2, (a3, ())))))
                else
                  bif decide (a1 > (0 : Int)) then
                    bif decide ((0 : Int) ≤ wI (a1 - (1 : Int))) && decide (wI (a1 - (1 : Int)) < (↑(List.length r1.snd.fst) : Int)) then
                      bif decide ((0 : Int) ≤ r0.fst.fst) && decide (r0.fst.fst < (↑(List.length r1.snd.fst) : Int)) then
                        none
                      else
                        none
                    else
                      none
                  else
                    none
              else
                bif decide (a1 > (0 : Int)) then
                  bif decide ((0 : Int) ≤ wI (a1 - (1 : Int))) && decide (wI (a1 - (1 : Int)) < (↑(List.length r0.snd.fst) : Int)) then
                    bif decide ((0 : Int) ≤ r0.fst.fst) && decide (r0.fst.fst < (↑(List.length r0.snd.fst) : Int)) then
                      none
                    else
                      none
                  else
                    none
                else
                  none
            else
              bif decide (a1 > (0 : Int)) then
                bif decide ((0 : Int) ≤ wI (a1 - (1 : Int))) && decide (wI (a1 - (1 : Int)) < (↑(List.length r0.snd.fst) : Int)) then
                  bif decide ((0 : Int) ≤ r0.fst.fst) && decide (r0.fst.fst < (↑(List.length r0.snd.fst) : Int)) then
                    none
                  else
                    none
                else
                  none
              else
                none
          else
            bif decide (a1 > (0 : Int)) then
              bif decide ((0 : Int) ≤ wI (a1 - (1 : Int))) && decide (wI (a1 - (1 : Int)) < (↑(List.length r0.snd.fst) : Int)) then
                bif decide ((0 : Int) ≤ r0.fst.fst) && decide (r0.fst.fst < (↑(List.length r0.snd.fst) : Int)) then
                  none
                else
                  none
              else
                none
            else
              none
noncomputable def slices_pdqsortOrdered_uint32.l0 (c0 : Z77) (c1 : Z78) (c2 : Z79) (fuel : Nat) (a0 : (List Int)) (a1 : Int) (a2 : Int) (a3 : Int) (n : Nat) (s : (Bool × Bool)) : Z99 :=
  iterN (fun k0 s => slices_pdqsortOrdered_uint32.b0 c0 c1 c2 a0 a1 a2 a3 k0 s) n s
noncomputable def slices_pdqsortOrdered_uint32.b (c0 : Z77) (c1 : Z78) (c2 : Z79) (a0 : (List Int)) (a1 : Int) (a2 : Int) (a3 : Int) (i0 : Z80) : Z99 :=
  i0 (true, true)
noncomputable def slices_pdqsortOrdered_uint32.f (c0 : Z77) (c1 : Z78) (c2 : Z79) (fuel : Nat) (a0 : (List Int)) (a1 : Int) (a2 : Int) (a3 : Int) : Z99 := slices_pdqsortOrdered_uint32.b c0 c1 c2 a0 a1 a2 a3 (fun t => slices_pdqsortOrdered_uint32.l0 c0 c1 c2 fuel a0 a1 a2 a3 fuel t)
end BE
end
