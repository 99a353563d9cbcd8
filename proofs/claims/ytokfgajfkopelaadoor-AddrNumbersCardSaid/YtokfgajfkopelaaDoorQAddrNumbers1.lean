/- The runs of chapter 1, each length, and texts that are none: both sides answer alike. -/
import Derived.Below
import Derived.ChangeOld
import Derived.Deep.DeepHandedRow
import Derived.Lib.LaidTab
import Derived.OpenShut
import Derived.ProofKit
import Derived.SevenTiedAt
import Derived.ShutString
import Derived.SizedLaws
import Derived.Test.YtokfgajfkopelaaDoorCards
import Derived.Test.YtokfgajfkopelaaDoorTie
import Derived.WalkKit
import Derived.Test.YtokfgajfkopelaaDoorQAddrNumbers0
namespace Go.Proofs.YtokfgajfkopelaaDoor.BP
open Go.Proofs.YtokfgajfkopelaaDoor.Mine
open Go.RowKit Go.Proofs.YtokfgajfkopelaaDoorW.PrintWords Go.Proofs.YtokfgajfkopelaaDoorW.PrintLast Go.Proofs.YtokfgajfkopelaaDoorW.PrintMore
attribute [local go_sem] max2_int min2_int max_two min_two max_three min_three max_four min_four
set_option linter.unusedVariables false
set_option linter.unusedSimpArgs false
attribute [local go_sem high] eqA24
def signpostlaw1_AddrTells.j0 : Nat → Int → Int → Int → Int → ByteArray → Option (Bool)
 | 0, _, _, _, _, _ => none
 | k + 1, x0, x1, x2, x3, x4 => (signpostkeep_Any.f k x0 x2).bind fun bt207 => ((signpostkeep_Any.f k x1 x3).bind fun bt209 => ((addr_Mask.f x2).bind fun t213 => ((signpostref1_Mask.f k x2).bind fun t214 => (if t213 = t214 then ((addr_Of.f x0 x2).bind fun bt215 => ((signpostref1_Of.f k x0 x2).bind fun bt217 => (if (bt215.1 == bt217.1 && (bt215.2 == bt217.2)) = true then ((signpostlaw1_sameP.f bt207.1 bt207.2 bt209.1 bt209.2 x1).bind fun t219 => (if t219 = true then ((signpostlaw1_sameP.f x0 x2 bt209.1 bt209.2 x1).bind fun t220 => (if t220 = true then ((signpostkeep_Any.f k x0 x3).bind fun bt221 => ((signpostlaw1_sameP.f bt207.1 bt207.2 bt221.1 bt221.2 x1).bind fun t223 => (if t223 = true then ((signpostlaw1_readP.f x4).bind fun t224 => (if t224 = true then ((signpostref1_TextP.f bt207.1 bt207.2).bind fun t225 => ((signpostlaw1_readP.f t225).bind fun t226 => (if t226 = true then ((signpostlaw1_known.f).bind fun t227 => (some t227)) else (some false)))) else (some false))) else (some false)))) else (some false))) else (some false))) else (some false)))) else (some false)))))
def signpostlaw1_AddrTells.f (k : Nat) (a0 : Int) (a1 : Int) (a2 : Int) (a3 : Int) (a4 : ByteArray) : Option (Bool) := if (a4.size : Int) > 60 then (if 0 ≤ 60 then (if 60 ≤ (a4.size : Int) then (signpostlaw1_AddrTells.j0 k a0 a1 a2 a3 (a4.extract 0 60)) else (none)) else (none)) else (signpostlaw1_AddrTells.j0 k a0 a1 a2 a3 a4)
def signpostlaw1_AddrTells.T4 : Bool × List (List Nat × List Nat) := (true, [([], []), ([0], [0]), ([], []), ([2, 1], [2]), ([1, 3], [1, 3]), ([4, 3], [4]), ([5], [5]), ([5], [5]), ([6, 7, 5, 5], [5, 6, 7]), ([5], [5]), ([5], [5]), ([9, 10, 8, 5], [5, 9, 10]), ([8, 11, 5], [5, 8, 11]), ([5, 12], [5, 12]), ([13, 11], [13]), ([14], [14]), ([14], [14]), ([14], [14]), ([15, 16, 17, 14, 14], [14, 15, 16, 17]), ([14, 18], [14, 18]), ([19, 18], [19]), ([20], [20]), ([20], [20]), ([21, 22, 20], [20, 21, 22]), ([20], [20]), ([20], [20]), ([23, 24, 25, 20, 20], [20, 23, 24, 25]), ([20, 26], [20, 26]), ([27, 26], [27]), ([28], [28]), ([28], [28]), ([28], [28]), ([30, 31, 28, 28], [28, 30, 31]), ([28], [28]), ([29, 32, 33, 32, 28], [28, 29, 32, 33]), ([28, 34], [28, 34]), ([35, 34], [35]), ([36], [36]), ([37, 36, 36], [36, 37]), ([36, 38], [36, 38]), ([39, 38], [39]), ([40], [40]), ([41, 40, 40], [40, 41]), ([42, 42, 40], [40, 42]), ([40, 43], [40, 43]), ([44, 43], [44]), ([45, 45], [45]), ([45, 46], [45, 46]), ([47, 46, 0, 1, 2, 3, 4, 5, 6, 7, 8, 9, 10, 11, 12, 13, 14, 15, 16, 17, 18, 19, 20, 21, 22, 23, 24, 25, 26, 27, 28, 29, 30, 31, 32, 33, 34, 35, 36, 37, 38, 39, 40, 41, 42, 43, 44, 45, 46, 47], [47])])
def signpostlaw1_AddrTells.B4 : List Nat := [0, 1, 0, 7, 15, 31, 63, 63, 255, 63, 63, 2047, 4095, 8191, 16383, 32767, 32767, 32767, 262143, 524287, 1048575, 2097151, 2097151, 8388607, 2097151, 2097151, 67108863, 134217727, 268435455, 536870911, 536870911, 536870911, 3758096383, 536870911, 17179869183, 34359738367, 68719476735, 137438953471, 274877906943, 549755813887, 1099511627775, 2199023255551, 4398046511103, 8796093022207, 17592186044415, 35184372088831, 70368744177663, 140737488355327, 281474976710655]
theorem signpostlaw1_AddrTells.tab4 : rtab .any (opsOf Tryd.f9 4) = signpostlaw1_AddrTells.T4 := by kernel_rfl
theorem signpostlaw1_AddrTells.bits4 : waitsOk signpostlaw1_AddrTells.T4.2 signpostlaw1_AddrTells.B4 = true := by kernel_rfl
set_option maxHeartbeats 8000000 in
set_option maxRecDepth 100000 in
theorem signpostlaw1_AddrTells.calls (k : Nat) (a0 : Int) (a1 : Int) (a2 : Int) (a3 : Int) (a4 : ByteArray) (r : Bool) (hr : r = true) (w : World) (henv : Env w) (h : signpostlaw1_AddrTells.f k a0 a1 a2 a3 a4 = some r) :
 Calls Tryd.prog 9 #[.int .u32 a0, .int .u32 a1, .int .i64 a2, .int .i64 a3, .string a4] w fun e w' => e = .returned (.bool r) ∧ Below w.heap.size w w' := by
 have hu24 := Tryd.underlying24
 have HB := Aside0.mk (Below.refl w.heap.size w)
 have HENV := Aside0.mk henv
 clear henv
 have H : (if (a4.size : Int) > 60 then (if 0 ≤ 60 then (if 60 ≤ (a4.size : Int) then (signpostlaw1_AddrTells.j0 k a0 a1 a2 a3 (a4.extract 0 60)) else (none)) else (none)) else (signpostlaw1_AddrTells.j0 k a0 a1 a2 a3 a4)) = some r := h
 clear h
 have HC6 := Aside0.mk H
 clear H
 go_enter Tryd.func9, Tryd.ntmps9
 go_upto_if 15 with (fail)
 go_cut [4] (fun v4 wc => ∃ (kq : Nat) (x4_5 : ByteArray), v4 = .string x4_5 ∧ Aside0 (signpostlaw1_AddrTells.j0 kq a0 a1 a2 a3 x4_5 = some r) ∧ Aside0 (kq ≤ k) ∧ Aside0 (Below w.heap.size w wc))
 case first =>
  have H := HC6.out
  clear HC6
  by_cases c7 : (a4.size : Int) > 60
  ·rw [if_pos c7] at H
   have c7b0 : decide (60 < (a4.size : Int)) = true := decide_eq_true c7
   have c7b1 : decide (60 < a4.size) = true := decide_eq_true (by omega)
   clear c7
   (first | rw [c7b0] | (simp only [i64_w, i32_w]; rw [c7b0]) | skip)
   by_cases c8 : 0 ≤ 60
   ·rw [if_pos c8] at H
    have c8b0 := eq_true c8
    have c8b1 : decide (0 ≤ 60) = true := decide_eq_true c8
    clear c8
    by_cases c9 : 60 ≤ (a4.size : Int)
    ·rw [if_pos c9] at H
     have c9b0 := eq_true c9
     have c9b1 : decide (60 ≤ (a4.size : Int)) = true := decide_eq_true c9
     clear c9
     have H' := Aside0.mk H
     clear H
     go_wp2
     go_meet
     case rel => exact ⟨_, (a4.extract 0 60), (by first | rfl | (simp; done) | (simp [*]; done)), H', ⟨by first | omega | exact Nat.le_refl _⟩, ⟨by repeat (first | (with_reducible first | exact HB.out | apply below_alloc | apply pw_below_drewN | apply below_drew1) | exact HB.out)⟩⟩
    ·rw [if_neg c9] at H
     exact absurd H (by simp)
   ·rw [if_neg c8] at H
    exact absurd H (by simp)
  ·rw [if_neg c7] at H
   have c7b0 : decide (60 < (a4.size : Int)) = false := decide_eq_false c7
   have c7b1 : decide (60 < a4.size) = false := decide_eq_false (by omega)
   clear c7
   (first | rw [c7b0] | (simp only [i64_w, i32_w]; rw [c7b0]) | skip)
   have H' := Aside0.mk H
   clear H
   go_wp2
   go_meet
   case rel => exact ⟨_, (a4), (by first | rfl | (simp; done) | (simp [*]; done)), H', ⟨by first | omega | exact Nat.le_refl _⟩, ⟨by repeat (first | (with_reducible first | exact HB.out | apply below_alloc | apply pw_below_drewN | apply below_drew1) | exact HB.out)⟩⟩
 case rest =>
  clear HC6
  try clear p2
  try clear c7
  try clear c7b0
  try clear c7b1
  try clear c8
  try clear c8b0
  try clear c8b1
  try clear c9
  try clear c9b0
  try clear c9b1
  obtain ⟨kq, x4_5, rfl, HA, HJ5, HB⟩ := hcut
  cases kq with
  | zero => exact absurd HA.out (by simp [signpostlaw1_AddrTells.j0])
  | succ kj5 =>
   have H := HA.out
   clear HA
   simp only [signpostlaw1_AddrTells.j0] at H
   replace H := Option.bind_eq_some_iff.mp H
   obtain ⟨⟨t207, t208⟩, A100, H⟩ := H
   replace H : ((signpostkeep_Any.f kj5 a1 a3).bind fun bt209 => ((addr_Mask.f a2).bind fun t213 => ((signpostref1_Mask.f kj5 a2).bind fun t214 => (if t213 = t214 then ((addr_Of.f a0 a2).bind fun bt215 => ((signpostref1_Of.f kj5 a0 a2).bind fun bt217 => (if (bt215.1 == bt217.1 && (bt215.2 == bt217.2)) = true then ((signpostlaw1_sameP.f t207 t208 bt209.1 bt209.2 a1).bind fun t219 => (if t219 = true then ((signpostlaw1_sameP.f a0 a2 bt209.1 bt209.2 a1).bind fun t220 => (if t220 = true then ((signpostkeep_Any.f kj5 a0 a3).bind fun bt221 => ((signpostlaw1_sameP.f t207 t208 bt221.1 bt221.2 a1).bind fun t223 => (if t223 = true then ((signpostlaw1_readP.f x4_5).bind fun t224 => (if t224 = true then ((signpostref1_TextP.f t207 t208).bind fun t225 => ((signpostlaw1_readP.f t225).bind fun t226 => (if t226 = true then ((signpostlaw1_known.f).bind fun t227 => (some t227)) else (some false)))) else (some false))) else (some false)))) else (some false))) else (some false))) else (some false)))) else (some false))))) = some r := H
   have A10 := Aside0.mk A100
   clear A100
   replace H := Option.bind_eq_some_iff.mp H
   obtain ⟨⟨t209, t210⟩, A110, H⟩ := H
   replace H : ((addr_Mask.f a2).bind fun t213 => ((signpostref1_Mask.f kj5 a2).bind fun t214 => (if t213 = t214 then ((addr_Of.f a0 a2).bind fun bt215 => ((signpostref1_Of.f kj5 a0 a2).bind fun bt217 => (if (bt215.1 == bt217.1 && (bt215.2 == bt217.2)) = true then ((signpostlaw1_sameP.f t207 t208 t209 t210 a1).bind fun t219 => (if t219 = true then ((signpostlaw1_sameP.f a0 a2 t209 t210 a1).bind fun t220 => (if t220 = true then ((signpostkeep_Any.f kj5 a0 a3).bind fun bt221 => ((signpostlaw1_sameP.f t207 t208 bt221.1 bt221.2 a1).bind fun t223 => (if t223 = true then ((signpostlaw1_readP.f x4_5).bind fun t224 => (if t224 = true then ((signpostref1_TextP.f t207 t208).bind fun t225 => ((signpostlaw1_readP.f t225).bind fun t226 => (if t226 = true then ((signpostlaw1_known.f).bind fun t227 => (some t227)) else (some false)))) else (some false))) else (some false)))) else (some false))) else (some false))) else (some false)))) else (some false)))) = some r := H
   have A11 := Aside0.mk A110
   clear A110
   replace H := Option.bind_eq_some_iff.mp H
   obtain ⟨t213, A120, H⟩ := H
   replace H : ((signpostref1_Mask.f kj5 a2).bind fun t214 => (if t213 = t214 then ((addr_Of.f a0 a2).bind fun bt215 => ((signpostref1_Of.f kj5 a0 a2).bind fun bt217 => (if (bt215.1 == bt217.1 && (bt215.2 == bt217.2)) = true then ((signpostlaw1_sameP.f t207 t208 t209 t210 a1).bind fun t219 => (if t219 = true then ((signpostlaw1_sameP.f a0 a2 t209 t210 a1).bind fun t220 => (if t220 = true then ((signpostkeep_Any.f kj5 a0 a3).bind fun bt221 => ((signpostlaw1_sameP.f t207 t208 bt221.1 bt221.2 a1).bind fun t223 => (if t223 = true then ((signpostlaw1_readP.f x4_5).bind fun t224 => (if t224 = true then ((signpostref1_TextP.f t207 t208).bind fun t225 => ((signpostlaw1_readP.f t225).bind fun t226 => (if t226 = true then ((signpostlaw1_known.f).bind fun t227 => (some t227)) else (some false)))) else (some false))) else (some false)))) else (some false))) else (some false))) else (some false)))) else (some false))) = some r := H
   have A12 := Aside0.mk A120
   clear A120
   replace H := Option.bind_eq_some_iff.mp H
   obtain ⟨t214, A130, H⟩ := H
   replace H : (if t213 = t214 then ((addr_Of.f a0 a2).bind fun bt215 => ((signpostref1_Of.f kj5 a0 a2).bind fun bt217 => (if (bt215.1 == bt217.1 && (bt215.2 == bt217.2)) = true then ((signpostlaw1_sameP.f t207 t208 t209 t210 a1).bind fun t219 => (if t219 = true then ((signpostlaw1_sameP.f a0 a2 t209 t210 a1).bind fun t220 => (if t220 = true then ((signpostkeep_Any.f kj5 a0 a3).bind fun bt221 => ((signpostlaw1_sameP.f t207 t208 bt221.1 bt221.2 a1).bind fun t223 => (if t223 = true then ((signpostlaw1_readP.f x4_5).bind fun t224 => (if t224 = true then ((signpostref1_TextP.f t207 t208).bind fun t225 => ((signpostlaw1_readP.f t225).bind fun t226 => (if t226 = true then ((signpostlaw1_known.f).bind fun t227 => (some t227)) else (some false)))) else (some false))) else (some false)))) else (some false))) else (some false))) else (some false)))) else (some false)) = some r := H
   have A13 := Aside0.mk A130
   clear A130
   by_cases c14 : t213 = t214
   ·rw [if_pos c14] at H
    have c14b0 : (t213 == t214) = true := beq_iff_eq.mpr c14
    have c14b1 : (t213 != t214) = false := bne_eq_false_iff_eq.mpr c14
    clear c14
    replace H := Option.bind_eq_some_iff.mp H
    obtain ⟨⟨t215, t216⟩, A150, H⟩ := H
    replace H : ((signpostref1_Of.f kj5 a0 a2).bind fun bt217 => (if (t215 == bt217.1 && (t216 == bt217.2)) = true then ((signpostlaw1_sameP.f t207 t208 t209 t210 a1).bind fun t219 => (if t219 = true then ((signpostlaw1_sameP.f a0 a2 t209 t210 a1).bind fun t220 => (if t220 = true then ((signpostkeep_Any.f kj5 a0 a3).bind fun bt221 => ((signpostlaw1_sameP.f t207 t208 bt221.1 bt221.2 a1).bind fun t223 => (if t223 = true then ((signpostlaw1_readP.f x4_5).bind fun t224 => (if t224 = true then ((signpostref1_TextP.f t207 t208).bind fun t225 => ((signpostlaw1_readP.f t225).bind fun t226 => (if t226 = true then ((signpostlaw1_known.f).bind fun t227 => (some t227)) else (some false)))) else (some false))) else (some false)))) else (some false))) else (some false))) else (some false))) = some r := H
    have A15 := Aside0.mk A150
    clear A150
    replace H := Option.bind_eq_some_iff.mp H
    obtain ⟨⟨t217, t218⟩, A160, H⟩ := H
    replace H : (if (t215 == t217 && (t216 == t218)) = true then ((signpostlaw1_sameP.f t207 t208 t209 t210 a1).bind fun t219 => (if t219 = true then ((signpostlaw1_sameP.f a0 a2 t209 t210 a1).bind fun t220 => (if t220 = true then ((signpostkeep_Any.f kj5 a0 a3).bind fun bt221 => ((signpostlaw1_sameP.f t207 t208 bt221.1 bt221.2 a1).bind fun t223 => (if t223 = true then ((signpostlaw1_readP.f x4_5).bind fun t224 => (if t224 = true then ((signpostref1_TextP.f t207 t208).bind fun t225 => ((signpostlaw1_readP.f t225).bind fun t226 => (if t226 = true then ((signpostlaw1_known.f).bind fun t227 => (some t227)) else (some false)))) else (some false))) else (some false)))) else (some false))) else (some false))) else (some false)) = some r := H
    have A16 := Aside0.mk A160
    clear A160
    by_cases c17 : (t215 == t217 && (t216 == t218)) = true
    ·rw [if_pos c17] at H
     have c17b0 : (t215 == t217 && (t216 == t218)) = true := c17
     (try (have c17b1 : decide (t215 = t217 && (t216 == t218)) = true := by simpa using c17))
     (try (have c17b2 : (t215 == t217 && (t216 == t218)) = true := by simpa using c17))
     clear c17
     replace H := Option.bind_eq_some_iff.mp H
     obtain ⟨t219, A180, H⟩ := H
     replace H : (if t219 = true then ((signpostlaw1_sameP.f a0 a2 t209 t210 a1).bind fun t220 => (if t220 = true then ((signpostkeep_Any.f kj5 a0 a3).bind fun bt221 => ((signpostlaw1_sameP.f t207 t208 bt221.1 bt221.2 a1).bind fun t223 => (if t223 = true then ((signpostlaw1_readP.f x4_5).bind fun t224 => (if t224 = true then ((signpostref1_TextP.f t207 t208).bind fun t225 => ((signpostlaw1_readP.f t225).bind fun t226 => (if t226 = true then ((signpostlaw1_known.f).bind fun t227 => (some t227)) else (some false)))) else (some false))) else (some false)))) else (some false))) else (some false)) = some r := H
     have A18 := Aside0.mk A180
     clear A180
     by_cases c19 : t219 = true
     ·subst c19
      have H1 : ((signpostlaw1_sameP.f a0 a2 t209 t210 a1).bind fun t220 => (if t220 = true then ((signpostkeep_Any.f kj5 a0 a3).bind fun bt221 => ((signpostlaw1_sameP.f t207 t208 bt221.1 bt221.2 a1).bind fun t223 => (if t223 = true then ((signpostlaw1_readP.f x4_5).bind fun t224 => (if t224 = true then ((signpostref1_TextP.f t207 t208).bind fun t225 => ((signpostlaw1_readP.f t225).bind fun t226 => (if t226 = true then ((signpostlaw1_known.f).bind fun t227 => (some t227)) else (some false)))) else (some false))) else (some false)))) else (some false))) = some r := by rw [if_pos rfl] at H; exact H
      clear H
      have H := H1
      clear H1
      replace H := Option.bind_eq_some_iff.mp H
      obtain ⟨t220, A200, H⟩ := H
      replace H : (if t220 = true then ((signpostkeep_Any.f kj5 a0 a3).bind fun bt221 => ((signpostlaw1_sameP.f t207 t208 bt221.1 bt221.2 a1).bind fun t223 => (if t223 = true then ((signpostlaw1_readP.f x4_5).bind fun t224 => (if t224 = true then ((signpostref1_TextP.f t207 t208).bind fun t225 => ((signpostlaw1_readP.f t225).bind fun t226 => (if t226 = true then ((signpostlaw1_known.f).bind fun t227 => (some t227)) else (some false)))) else (some false))) else (some false)))) else (some false)) = some r := H
      have A20 := Aside0.mk A200
      clear A200
      by_cases c21 : t220 = true
      ·subst c21
       have H1 : ((signpostkeep_Any.f kj5 a0 a3).bind fun bt221 => ((signpostlaw1_sameP.f t207 t208 bt221.1 bt221.2 a1).bind fun t223 => (if t223 = true then ((signpostlaw1_readP.f x4_5).bind fun t224 => (if t224 = true then ((signpostref1_TextP.f t207 t208).bind fun t225 => ((signpostlaw1_readP.f t225).bind fun t226 => (if t226 = true then ((signpostlaw1_known.f).bind fun t227 => (some t227)) else (some false)))) else (some false))) else (some false)))) = some r := by rw [if_pos rfl] at H; exact H
       clear H
       have H := H1
       clear H1
       replace H := Option.bind_eq_some_iff.mp H
       obtain ⟨⟨t221, t222⟩, A220, H⟩ := H
       replace H : ((signpostlaw1_sameP.f t207 t208 t221 t222 a1).bind fun t223 => (if t223 = true then ((signpostlaw1_readP.f x4_5).bind fun t224 => (if t224 = true then ((signpostref1_TextP.f t207 t208).bind fun t225 => ((signpostlaw1_readP.f t225).bind fun t226 => (if t226 = true then ((signpostlaw1_known.f).bind fun t227 => (some t227)) else (some false)))) else (some false))) else (some false))) = some r := H
       have A22 := Aside0.mk A220
       clear A220
       replace H := Option.bind_eq_some_iff.mp H
       obtain ⟨t223, A230, H⟩ := H
       replace H : (if t223 = true then ((signpostlaw1_readP.f x4_5).bind fun t224 => (if t224 = true then ((signpostref1_TextP.f t207 t208).bind fun t225 => ((signpostlaw1_readP.f t225).bind fun t226 => (if t226 = true then ((signpostlaw1_known.f).bind fun t227 => (some t227)) else (some false)))) else (some false))) else (some false)) = some r := H
       have A23 := Aside0.mk A230
       clear A230
       by_cases c24 : t223 = true
       ·subst c24
        have H1 : ((signpostlaw1_readP.f x4_5).bind fun t224 => (if t224 = true then ((signpostref1_TextP.f t207 t208).bind fun t225 => ((signpostlaw1_readP.f t225).bind fun t226 => (if t226 = true then ((signpostlaw1_known.f).bind fun t227 => (some t227)) else (some false)))) else (some false))) = some r := by rw [if_pos rfl] at H; exact H
        clear H
        have H := H1
        clear H1
        replace H := Option.bind_eq_some_iff.mp H
        obtain ⟨t224, A250, H⟩ := H
        replace H : (if t224 = true then ((signpostref1_TextP.f t207 t208).bind fun t225 => ((signpostlaw1_readP.f t225).bind fun t226 => (if t226 = true then ((signpostlaw1_known.f).bind fun t227 => (some t227)) else (some false)))) else (some false)) = some r := H
        have A25 := Aside0.mk A250
        clear A250
        by_cases c26 : t224 = true
        ·subst c26
         have H1 : ((signpostref1_TextP.f t207 t208).bind fun t225 => ((signpostlaw1_readP.f t225).bind fun t226 => (if t226 = true then ((signpostlaw1_known.f).bind fun t227 => (some t227)) else (some false)))) = some r := by rw [if_pos rfl] at H; exact H
         clear H
         have H := H1
         clear H1
         replace H := Option.bind_eq_some_iff.mp H
         obtain ⟨t225, A270, H⟩ := H
         replace H : ((signpostlaw1_readP.f t225).bind fun t226 => (if t226 = true then ((signpostlaw1_known.f).bind fun t227 => (some t227)) else (some false))) = some r := H
         have A27 := Aside0.mk A270
         clear A270
         replace H := Option.bind_eq_some_iff.mp H
         obtain ⟨t226, A280, H⟩ := H
         replace H : (if t226 = true then ((signpostlaw1_known.f).bind fun t227 => (some t227)) else (some false)) = some r := H
         have A28 := Aside0.mk A280
         clear A280
         by_cases c29 : t226 = true
         ·subst c29
          have H1 : ((signpostlaw1_known.f).bind fun t227 => (some t227)) = some r := by rw [if_pos rfl] at H; exact H
          clear H
          have H := H1
          clear H1
          replace H := Option.bind_eq_some_iff.mp H
          obtain ⟨t227, A300, H⟩ := H
          replace H : (some t227) = some r := H
          have A30 := Aside0.mk A300
          clear A300
          obtain rfl := Option.some.inj H
          try go_wp2_with (first | ((with_reducible refine gate_callee (f := 11) rfl ?_); refine goesL_ (some 20) rfl rfl Tryd.func11 (by kernel_rfl) rfl #[.int .u32 a0, .int .i64 a2] rfl (by (try simp only [List.map_toArray, List.map_cons, List.map_nil]); first | done | rfl | (simp only [List.length_drop, List.length_take]; rfl)) ?_; (with_reducible refine (signpostkeep_Any.calls kj5 a0 a2 t207 t208 _ A10.out).mono ?_); rintro e w31 ⟨rfl, hb⟩; refine ⟨_, rfl, ?_⟩; have n0_ := Aside0.mk (below_step (by repeat (first | (with_reducible first | exact HB.out | apply below_alloc | apply pw_below_drewN | apply below_drew1) | exact HB.out)) hb); clear HB; have HB := n0_; clear n0_; (try clear hb); (try clear hb2); (try clear hk); (try clear hi)) | ((with_reducible refine gate_callee (f := 11) rfl ?_); refine goesL_ (some 23) rfl rfl Tryd.func11 (by kernel_rfl) rfl #[.int .u32 a1, .int .i64 a3] rfl (by (try simp only [List.map_toArray, List.map_cons, List.map_nil]); first | done | rfl | (simp only [List.length_drop, List.length_take]; rfl)) ?_; (with_reducible refine (signpostkeep_Any.calls kj5 a1 a3 t209 t210 _ A11.out).mono ?_); rintro e w32 ⟨rfl, hb⟩; refine ⟨_, rfl, ?_⟩; have n0_ := Aside0.mk (below_step (by repeat (first | (with_reducible first | exact HB.out | apply below_alloc | apply pw_below_drewN | apply below_drew1) | exact HB.out)) hb); clear HB; have HB := n0_; clear n0_; (try clear hb); (try clear hb2); (try clear hk); (try clear hi)) | ((with_reducible refine gate_dst (N := 11) rfl ?_); refine box_event ?hg (N := 11) ?hd (cs := #[.int .u32 0, .int .i64 0]) (t := 24) ?hr ?_; (case hd => rfl); (case hg => rfl); (case hr => first | (go_simp; done) | (go_simp; rfl)); intro gb211 hg w33 hbox hb; have n0_ := Aside0.mk (below_step (by repeat (first | (with_reducible first | exact HB.out | apply below_alloc | apply pw_below_drewN | apply below_drew1) | exact HB.out)) hb); have n1_ := Aside0.mk (hbox); have n2_ := Aside0.mk ((by rw [hg]; exact (below_size (by repeat (first | (with_reducible first | exact HB.out | apply below_alloc | apply pw_below_drewN | apply below_drew1) | exact HB.out))) : w.heap.size ≤ gb211)); have n3_ := Aside0.mk ((by rw [hg]; exact (below_size (by repeat (first | (with_reducible first | exact HB.out | apply below_alloc | apply pw_below_drewN | apply below_drew1) | exact HB.out))) : w.heap.size ≤ gb211)); clear HB; have HB := n0_; have BK211 := n1_; have GW211 := n2_; have GE211 := n3_; clear n0_ n1_ n2_ n3_; clear hb hbox hg) | ((with_reducible refine gate_dst (N := 12) rfl ?_); refine box_event ?hg (N := 12) ?hd (cs := #[.int .u32 0, .int .i64 0]) (t := 24) ?hr ?_; (case hd => rfl); (case hg => rfl); (case hr => first | (go_simp; done) | (go_simp; rfl)); intro gb212 hg w34 hbox hb; have n0_ := Aside0.mk (blk_below (g := gb211) (o := .cells #[.int .u32 0, .int .i64 0] 24 (0, 0)) (by (with_reducible repeat (first | refine blk_drewN ?_ _ | refine blk_drew ?_ | refine blk_alloc ?_ _)); exact BK211.out) hb); have n1_ := Aside0.mk (below_step (by repeat (first | (with_reducible first | exact HB.out | apply below_alloc | apply pw_below_drewN | apply below_drew1 | refine below_set ?_ GE211.out) | exact HB.out)) hb); have n2_ := Aside0.mk (hbox); have n3_ := Aside0.mk ((by rw [hg]; exact (below_size (by repeat (first | (with_reducible first | exact HB.out | apply below_alloc | apply pw_below_drewN | apply below_drew1 | refine below_set ?_ GE211.out) | exact HB.out))) : w.heap.size ≤ gb212)); have n4_ := Aside0.mk ((by rw [hg]; exact (below_size (by repeat (first | (with_reducible first | exact HB.out | apply below_alloc | apply pw_below_drewN | apply below_drew1 | refine below_set ?_ GE211.out) | exact HB.out))) : w.heap.size ≤ gb212)); have n5_ := Aside0.mk ((by rw [hg]; exact Nat.ne_of_lt (blk_lt (g := gb211) (o := .cells #[.int .u32 0, .int .i64 0] 24 (0, 0)) (by (with_reducible repeat (first | refine blk_drewN ?_ _ | refine blk_drew ?_ | refine blk_alloc ?_ _)); exact BK211.out)) : gb211 ≠ gb212)); have n6_ := Aside0.mk ((by rw [hg]; exact Nat.ne_of_gt (blk_lt (g := gb211) (o := .cells #[.int .u32 0, .int .i64 0] 24 (0, 0)) (by (with_reducible repeat (first | refine blk_drewN ?_ _ | refine blk_drew ?_ | refine blk_alloc ?_ _)); exact BK211.out)) : gb212 ≠ gb211)); clear BK211; clear HB; have BK211 := n0_; have HB := n1_; have BK212 := n2_; have GW212 := n3_; have GE212 := n4_; have NB211_212 := n5_; have NB212_211 := n6_; clear n0_ n1_ n2_ n3_ n4_ n5_ n6_; clear hb hbox hg; have hnb35 := NB211_212.out; have hnc35 := NB212_211.out; have hcz36_0 : w34.cell? ⟨gb211, 0, none⟩ = some (.int .u32 0) := (blk_cell BK211.out 0).trans rfl; have hcz36_1 : w34.cell? ⟨gb211, 1, none⟩ = some (.int .i64 0) := (blk_cell BK211.out 1).trans rfl; have hfz36_0 := blk_frozen BK211.out 0; have hfz36_1 := blk_frozen BK211.out 1; have hcz37_0 : w34.cell? ⟨gb212, 0, none⟩ = some (.int .u32 0) := (blk_cell BK212.out 0).trans rfl; have hcz37_1 : w34.cell? ⟨gb212, 1, none⟩ = some (.int .i64 0) := (blk_cell BK212.out 1).trans rfl; have hfz37_0 := blk_frozen BK212.out 0; have hfz37_1 := blk_frozen BK212.out 1))
          have n0_ : Aside0 (((((w34.setCell ⟨gb211, 0, none⟩ (.int .u32 t207)).setCell ⟨gb211, 1, none⟩ (.int .i64 t208)).setCell ⟨gb212, 0, none⟩ (.int .u32 t209)).setCell ⟨gb212, 1, none⟩ (.int .i64 t210)).heap[gb211]? = some (.cells #[.int .u32 t207, .int .i64 t208] 24 (0, 0))) := ⟨by (with_reducible repeat (first | refine blk_drewN ?_ _ | refine blk_drew ?_ | refine blk_alloc ?_ _)); refine blk_far ?_ NB211_212.out _; (with_reducible repeat (first | refine blk_drewN ?_ _ | refine blk_drew ?_ | refine blk_alloc ?_ _)); refine blk_far ?_ NB211_212.out _; (with_reducible repeat (first | refine blk_drewN ?_ _ | refine blk_drew ?_ | refine blk_alloc ?_ _)); refine blk_put (cs := #[.int .u32 t207, .int .i64 0]) ?_ 1 _ rfl; (with_reducible repeat (first | refine blk_drewN ?_ _ | refine blk_drew ?_ | refine blk_alloc ?_ _)); refine blk_put (cs := #[.int .u32 0, .int .i64 0]) ?_ 0 _ rfl; (with_reducible repeat (first | refine blk_drewN ?_ _ | refine blk_drew ?_ | refine blk_alloc ?_ _)); exact BK211.out⟩
          have n1_ : Aside0 (((((w34.setCell ⟨gb211, 0, none⟩ (.int .u32 t207)).setCell ⟨gb211, 1, none⟩ (.int .i64 t208)).setCell ⟨gb212, 0, none⟩ (.int .u32 t209)).setCell ⟨gb212, 1, none⟩ (.int .i64 t210)).heap[gb212]? = some (.cells #[.int .u32 t209, .int .i64 t210] 24 (0, 0))) := ⟨by (with_reducible repeat (first | refine blk_drewN ?_ _ | refine blk_drew ?_ | refine blk_alloc ?_ _)); refine blk_put (cs := #[.int .u32 t209, .int .i64 0]) ?_ 1 _ rfl; (with_reducible repeat (first | refine blk_drewN ?_ _ | refine blk_drew ?_ | refine blk_alloc ?_ _)); refine blk_put (cs := #[.int .u32 0, .int .i64 0]) ?_ 0 _ rfl; (with_reducible repeat (first | refine blk_drewN ?_ _ | refine blk_drew ?_ | refine blk_alloc ?_ _)); refine blk_far ?_ NB212_211.out _; (with_reducible repeat (first | refine blk_drewN ?_ _ | refine blk_drew ?_ | refine blk_alloc ?_ _)); refine blk_far ?_ NB212_211.out _; (with_reducible repeat (first | refine blk_drewN ?_ _ | refine blk_drew ?_ | refine blk_alloc ?_ _)); exact BK212.out⟩
          have n2_ : Aside0 (Below w.heap.size w ((((w34.setCell ⟨gb211, 0, none⟩ (.int .u32 t207)).setCell ⟨gb211, 1, none⟩ (.int .i64 t208)).setCell ⟨gb212, 0, none⟩ (.int .u32 t209)).setCell ⟨gb212, 1, none⟩ (.int .i64 t210))) := ⟨by repeat (first | (with_reducible first | exact HB.out | apply below_alloc | apply pw_below_drewN | apply below_drew1 | refine below_set ?_ GE211.out | refine below_set ?_ GE212.out) | exact HB.out)⟩
          (try clear BK211)
          (try clear BK212)
          (try clear HB)
          generalize ((((w34.setCell ⟨gb211, 0, none⟩ (.int .u32 t207)).setCell ⟨gb211, 1, none⟩ (.int .i64 t208)).setCell ⟨gb212, 0, none⟩ (.int .u32 t209)).setCell ⟨gb212, 1, none⟩ (.int .i64 t210)) = w38 at n0_ n1_ n2_ ⊢
          have BK211 := n0_
          have BK212 := n1_
          have HB := n2_
          clear n0_ n1_ n2_
          have n0_ := Aside0.mk (blk_drew BK211.out)
          have n1_ := Aside0.mk (blk_drew BK212.out)
          have n2_ := Aside0.mk (below_drew1 HB.out)
          clear BK211
          clear BK212
          clear HB
          have BK211 := n0_
          have BK212 := n1_
          have HB := n2_
          clear n0_ n1_ n2_
          refine start_ (n := 49) (S := fun w' => w'.cell? ⟨gb211, 0, none⟩ = some (.int .u32 t207) ∧ w'.cell? ⟨gb211, 1, none⟩ = some (.int .i64 t208) ∧ w'.cell? ⟨gb212, 0, none⟩ = some (.int .u32 t209) ∧ w'.cell? ⟨gb212, 1, none⟩ = some (.int .i64 t210)) (ds := []) #[false, false, false, false, false, false, false, false, false, false, false, false, false, false, false, false, false, false, false, false, false, false, false, false, false, false, false, false, false, false, false, false, false, false, false, false, false, false, false, false, false, false, false, false, false, false, false, false, false] (by kernel_rfl) rfl rfl ⟨(blk_cell BK211.out 0).trans rfl, (blk_cell BK211.out 1).trans rfl, (blk_cell BK212.out 0).trans rfl, (blk_cell BK212.out 1).trans rfl⟩ (fun hHeld => ?_); refine with_tabW signpostlaw1_AddrTells.tab4 signpostlaw1_AddrTells.bits4 (fun HT_ HW_ => ?_)
          generalize w38.drew = w39 at BK211 BK212 HB hHeld ⊢
          refine pure_ (i := 0) (N := some 24) (v := ?_) (a' := ?_) #[true, false, false, false, false, false, false, false, false, false, false, false, false, false, false, false, false, false, false, false, false, false, false, false, false, false, false, false, false, false, false, false, false, false, false, false, false, false, false, false, false, false, false, false, false, false, false, false, false] rfl rfl (any_of HT_.out (by kernel_rfl)) (fun _ _ _ h => h) (Or.inl ⟨by rfl, ?_⟩) ?_ ?_
          rotate_left
          ·intro w'
           go_simp
           with_reducible rfl
          rotate_left
          ·simp only [Act.put, List.setIfInBounds_toArray, List.set_cons_zero, List.set_cons_succ, i64_w, i32_w]
           rfl
          refine pure_ (i := 2) (N := some 26) (v := ?_) (a' := ?_) #[true, false, true, false, false, false, false, false, false, false, false, false, false, false, false, false, false, false, false, false, false, false, false, false, false, false, false, false, false, false, false, false, false, false, false, false, false, false, false, false, false, false, false, false, false, false, false, false, false] rfl rfl (any_of HT_.out (by kernel_rfl)) (fun _ _ _ h => h) (Or.inl ⟨by rfl, ?_⟩) ?_ ?_
          rotate_left
          ·intro w'
           go_simp
           with_reducible rfl
          rotate_left
          ·simp only [Act.put, List.setIfInBounds_toArray, List.set_cons_zero, List.set_cons_succ, i64_w, i32_w]
           rfl
          refine one_ (i := 1) (N := some 25) #[true, true, true, false, false, false, false, false, false, false, false, false, false, false, false, false, false, false, false, false, false, false, false, false, false, false, false, false, false, false, false, false, false, false, false, false, false, false, false, false, false, false, false, false, false, false, false, false, false] rfl rfl (one_of HT_.out (by kernel_rfl)) (by decide) (fun K hK => ?_)
          refine goes_ Tryd.func16 (by kernel_rfl) rfl #[.int .i64 a2] (by rfl) rfl rfl (by (try simp only [List.map_toArray, List.map_cons, List.map_nil]); first | done | rfl | (simp only [List.length_drop, List.length_take]; rfl)) ?_
          with_reducible refine (addr_Mask.calls a2 t213 _ A12.out).mono ?_
          rintro e w40 ⟨rfl, hb⟩
          refine ⟨_, rfl, ?_⟩
          have n0_ := Aside0.mk (blk_below (g := gb211) (o := .cells #[.int .u32 t207, .int .i64 t208] 24 (0, 0)) (by (with_reducible repeat (first | refine blk_drewN ?_ _ | refine blk_drew ?_ | refine blk_alloc ?_ _)); exact BK211.out) hb)
          have n1_ := Aside0.mk (blk_below (g := gb212) (o := .cells #[.int .u32 t209, .int .i64 t210] 24 (0, 0)) (by (with_reducible repeat (first | refine blk_drewN ?_ _ | refine blk_drew ?_ | refine blk_alloc ?_ _)); exact BK212.out) hb)
          have n2_ := Aside0.mk (below_step (by repeat (first | (with_reducible first | exact HB.out | apply below_alloc | apply pw_below_drewN | apply below_drew1 | refine below_set ?_ GE211.out | refine below_set ?_ GE212.out) | exact HB.out)) hb)
          clear BK211
          clear BK212
          clear HB
          have BK211 := n0_
          have BK212 := n1_
          have HB := n2_
          clear n0_ n1_ n2_
          (try clear hb)
          (try clear hb2)
          (try clear hk)
          (try clear hi)
          refine hK.out _ _ ⟨(blk_cell BK211.out 0).trans rfl, (blk_cell BK211.out 1).trans rfl, (blk_cell BK212.out 0).trans rfl, (blk_cell BK212.out 1).trans rfl⟩ (fun hHeld => ?_)
          clear hK K
          refine norm_ (a' := ?_) ?_ ?_
          rotate_left
          ·show Act.put _ (some 25) _ = _
           simp only [Act.put, List.setIfInBounds_toArray, List.set_cons_zero, List.set_cons_succ, i64_w, i32_w]
           rfl
          refine one_ (i := 3) (N := some 27) #[true, true, true, true, false, false, false, false, false, false, false, false, false, false, false, false, false, false, false, false, false, false, false, false, false, false, false, false, false, false, false, false, false, false, false, false, false, false, false, false, false, false, false, false, false, false, false, false, false] rfl rfl (one_of HT_.out (by kernel_rfl)) (by decide) (fun K hK => ?_)
          refine goes_ Tryd.func24 (by kernel_rfl) rfl #[.int .i64 a2] (by rfl) rfl rfl (by (try simp only [List.map_toArray, List.map_cons, List.map_nil]); first | done | rfl | (simp only [List.length_drop, List.length_take]; rfl)) ?_
          with_reducible refine (signpostref1_Mask.calls kj5 a2 t214 _ A13.out).mono ?_
          rintro e w' ⟨rfl, ⟨nd, rfl⟩⟩
          refine ⟨_, rfl, ?_⟩
          refine hK.out _ _ ⟨(blk_cell BK211.out 0).trans rfl, (blk_cell BK211.out 1).trans rfl, (blk_cell BK212.out 0).trans rfl, (blk_cell BK212.out 1).trans rfl⟩ (fun hHeld => ?_)
          clear hK K
          refine norm_ (a' := ?_) ?_ ?_
          rotate_left
          ·show Act.put _ (some 27) _ = _
           simp only [Act.put, List.setIfInBounds_toArray, List.set_cons_zero, List.set_cons_succ, i64_w, i32_w]
           rfl
          refine pure_ (i := 4) (N := some 28) (v := ?_) (a' := ?_) #[true, true, true, true, true, false, false, false, false, false, false, false, false, false, false, false, false, false, false, false, false, false, false, false, false, false, false, false, false, false, false, false, false, false, false, false, false, false, false, false, false, false, false, false, false, false, false, false, false] rfl rfl (any_of HT_.out (by kernel_rfl)) (fun _ _ _ h => h) (Or.inl ⟨by rfl, ?_⟩) ?_ ?_
          rotate_left
          ·intro w'
           go_simp
           with_reducible rfl
          rotate_left
          ·simp only [Act.put, List.setIfInBounds_toArray, List.set_cons_zero, List.set_cons_succ, i64_w, i32_w]
           rfl
          refine pure_ (i := 5) (N := some 29) (v := ?_) (a' := ?_) #[true, true, true, true, true, true, false, false, false, false, false, false, false, false, false, false, false, false, false, false, false, false, false, false, false, false, false, false, false, false, false, false, false, false, false, false, false, false, false, false, false, false, false, false, false, false, false, false, false] rfl rfl (any_of HT_.out (by kernel_rfl)) (fun _ _ _ h => h) (Or.inl ⟨by rfl, ?_⟩) ?_ ?_
          rotate_left
          ·intro w'
           go_simp
           with_reducible rfl
          rotate_left
          ·simp only [Act.put, List.setIfInBounds_toArray, List.set_cons_zero, List.set_cons_succ, i64_w, i32_w]
           rfl
          refine pure_ (i := 6) (N := some 30) (v := ?_) (a' := ?_) #[true, true, true, true, true, true, true, false, false, false, false, false, false, false, false, false, false, false, false, false, false, false, false, false, false, false, false, false, false, false, false, false, false, false, false, false, false, false, false, false, false, false, false, false, false, false, false, false, false] rfl rfl (any_of HT_.out (by kernel_rfl)) (fun _ _ _ h => h) (Or.inl ⟨by rfl, ?_⟩) ?_ ?_
          rotate_left
          ·intro w'
           go_simp
           with_reducible rfl
          rotate_left
          ·simp only [Act.put, List.setIfInBounds_toArray, List.set_cons_zero, List.set_cons_succ, i64_w, i32_w]
           rfl
          refine pure_ (i := 7) (N := some 31) (v := ?_) (a' := ?_) #[true, true, true, true, true, true, true, true, false, false, false, false, false, false, false, false, false, false, false, false, false, false, false, false, false, false, false, false, false, false, false, false, false, false, false, false, false, false, false, false, false, false, false, false, false, false, false, false, false] rfl rfl (any_of HT_.out (by kernel_rfl)) (fun _ _ _ h => h) (Or.inl ⟨by rfl, ?_⟩) ?_ ?_
          rotate_left
          ·intro w'
           go_simp
           with_reducible rfl
          rotate_left
          ·simp only [Act.put, List.setIfInBounds_toArray, List.set_cons_zero, List.set_cons_succ, i64_w, i32_w]
           rfl
          refine pure_ (i := 9) (N := some 33) (v := ?_) (a' := ?_) #[true, true, true, true, true, true, true, true, false, true, false, false, false, false, false, false, false, false, false, false, false, false, false, false, false, false, false, false, false, false, false, false, false, false, false, false, false, false, false, false, false, false, false, false, false, false, false, false, false] rfl rfl (any_of HT_.out (by kernel_rfl)) (fun _ _ _ h => h) (Or.inl ⟨by rfl, ?_⟩) ?_ ?_
          rotate_left
          ·intro w'
           go_simp
           with_reducible rfl
          rotate_left
          ·simp only [Act.put, List.setIfInBounds_toArray, List.set_cons_zero, List.set_cons_succ, i64_w, i32_w]
           rfl
          refine pure_ (i := 10) (N := some 34) (v := ?_) (a' := ?_) #[true, true, true, true, true, true, true, true, false, true, true, false, false, false, false, false, false, false, false, false, false, false, false, false, false, false, false, false, false, false, false, false, false, false, false, false, false, false, false, false, false, false, false, false, false, false, false, false, false] rfl rfl (any_of HT_.out (by kernel_rfl)) (fun _ _ _ h => h) (Or.inl ⟨by rfl, ?_⟩) ?_ ?_
          rotate_left
          ·intro w'
           go_simp
           with_reducible rfl
          rotate_left
          ·simp only [Act.put, List.setIfInBounds_toArray, List.set_cons_zero, List.set_cons_succ, i64_w, i32_w]
           rfl
          refine one_ (i := 8) (N := some 32) #[true, true, true, true, true, true, true, true, true, true, true, false, false, false, false, false, false, false, false, false, false, false, false, false, false, false, false, false, false, false, false, false, false, false, false, false, false, false, false, false, false, false, false, false, false, false, false, false, false] rfl rfl (one_of HT_.out (by kernel_rfl)) (by decide) (fun K hK => ?_)
          refine goes_ Tryd.func22 (by kernel_rfl) rfl #[.int .u32 a0, .int .i64 a2] (by rfl) rfl rfl (by (try simp only [List.map_toArray, List.map_cons, List.map_nil]); first | done | rfl | (simp only [List.length_drop, List.length_take]; rfl)) ?_
          with_reducible refine (addr_Of.calls a0 a2 t215 t216 _ A15.out).mono ?_
          rintro e w41 ⟨rfl, hb⟩
          refine ⟨_, rfl, ?_⟩
          have n0_ := Aside0.mk (blk_below (g := gb211) (o := .cells #[.int .u32 t207, .int .i64 t208] 24 (0, 0)) (by (with_reducible repeat (first | refine blk_drewN ?_ _ | refine blk_drew ?_ | refine blk_alloc ?_ _)); exact BK211.out) hb)
          have n1_ := Aside0.mk (blk_below (g := gb212) (o := .cells #[.int .u32 t209, .int .i64 t210] 24 (0, 0)) (by (with_reducible repeat (first | refine blk_drewN ?_ _ | refine blk_drew ?_ | refine blk_alloc ?_ _)); exact BK212.out) hb)
          have n2_ := Aside0.mk (below_step (by repeat (first | (with_reducible first | exact HB.out | apply below_alloc | apply pw_below_drewN | apply below_drew1 | refine below_set ?_ GE211.out | refine below_set ?_ GE212.out) | exact HB.out)) hb)
          clear BK211
          clear BK212
          clear HB
          have BK211 := n0_
          have BK212 := n1_
          have HB := n2_
          clear n0_ n1_ n2_
          (try clear hb)
          (try clear hb2)
          (try clear hk)
          (try clear hi)
          refine hK.out _ _ ⟨(blk_cell BK211.out 0).trans rfl, (blk_cell BK211.out 1).trans rfl, (blk_cell BK212.out 0).trans rfl, (blk_cell BK212.out 1).trans rfl⟩ (fun hHeld => ?_)
          clear hK K
          refine norm_ (a' := ?_) ?_ ?_
          rotate_left
          ·show Act.put _ (some 32) _ = _
           simp only [Act.put, List.setIfInBounds_toArray, List.set_cons_zero, List.set_cons_succ, i64_w, i32_w]
           rfl
          refine one_ (i := 11) (N := some 35) #[true, true, true, true, true, true, true, true, true, true, true, true, false, false, false, false, false, false, false, false, false, false, false, false, false, false, false, false, false, false, false, false, false, false, false, false, false, false, false, false, false, false, false, false, false, false, false, false, false] rfl rfl (one_of HT_.out (by kernel_rfl)) (by decide) (fun K hK => ?_)
          refine goes_ Tryd.func25 (by kernel_rfl) rfl #[.int .u32 a0, .int .i64 a2] (by rfl) rfl rfl (by (try simp only [List.map_toArray, List.map_cons, List.map_nil]); first | done | rfl | (simp only [List.length_drop, List.length_take]; rfl)) ?_
          with_reducible refine (signpostref1_Of.calls kj5 a0 a2 t217 t218 _ A16.out).mono ?_
          rintro e w42 ⟨rfl, hb⟩
          refine ⟨_, rfl, ?_⟩
          have n0_ := Aside0.mk (blk_below (g := gb211) (o := .cells #[.int .u32 t207, .int .i64 t208] 24 (0, 0)) (by (with_reducible repeat (first | refine blk_drewN ?_ _ | refine blk_drew ?_ | refine blk_alloc ?_ _)); exact BK211.out) hb)
          have n1_ := Aside0.mk (blk_below (g := gb212) (o := .cells #[.int .u32 t209, .int .i64 t210] 24 (0, 0)) (by (with_reducible repeat (first | refine blk_drewN ?_ _ | refine blk_drew ?_ | refine blk_alloc ?_ _)); exact BK212.out) hb)
          have n2_ := Aside0.mk (below_step (by repeat (first | (with_reducible first | exact HB.out | apply below_alloc | apply pw_below_drewN | apply below_drew1 | refine below_set ?_ GE211.out | refine below_set ?_ GE212.out) | exact HB.out)) hb)
          clear BK211
          clear BK212
          clear HB
          have BK211 := n0_
          have BK212 := n1_
          have HB := n2_
          clear n0_ n1_ n2_
          (try clear hb)
          (try clear hb2)
          (try clear hk)
          (try clear hi)
          refine hK.out _ _ ⟨(blk_cell BK211.out 0).trans rfl, (blk_cell BK211.out 1).trans rfl, (blk_cell BK212.out 0).trans rfl, (blk_cell BK212.out 1).trans rfl⟩ (fun hHeld => ?_)
          clear hK K
          refine norm_ (a' := ?_) ?_ ?_
          rotate_left
          ·show Act.put _ (some 35) _ = _
           simp only [Act.put, List.setIfInBounds_toArray, List.set_cons_zero, List.set_cons_succ, i64_w, i32_w]
           rfl
          refine pure_ (i := 12) (N := some 36) (v := ?_) (a' := ?_) #[true, true, true, true, true, true, true, true, true, true, true, true, true, false, false, false, false, false, false, false, false, false, false, false, false, false, false, false, false, false, false, false, false, false, false, false, false, false, false, false, false, false, false, false, false, false, false, false, false] rfl rfl (any_of HT_.out (by kernel_rfl)) (fun _ _ _ h => h) (Or.inl ⟨by rfl, ?_⟩) ?_ ?_
          rotate_left
          ·intro w'
           go_simp
           with_reducible rfl
          rotate_left
          ·simp only [Act.put, List.setIfInBounds_toArray, List.set_cons_zero, List.set_cons_succ, i64_w, i32_w]
           rfl
          refine pure_ (i := 13) (N := some 37) (v := ?_) (a' := ?_) #[true, true, true, true, true, true, true, true, true, true, true, true, true, true, false, false, false, false, false, false, false, false, false, false, false, false, false, false, false, false, false, false, false, false, false, false, false, false, false, false, false, false, false, false, false, false, false, false, false] rfl rfl (any_of HT_.out (by kernel_rfl)) (fun _ _ _ h => h) (Or.inl ⟨by rfl, ?_⟩) ?_ ?_
          rotate_left
          ·intro w'
           go_simp
           with_reducible rfl
          rotate_left
          ·simp only [Act.put, List.setIfInBounds_toArray, List.set_cons_zero, List.set_cons_succ, i64_w, i32_w]
           rfl
          refine pure_ (i := 14) (N := some 38) (v := ?_) (a' := ?_) #[true, true, true, true, true, true, true, true, true, true, true, true, true, true, true, false, false, false, false, false, false, false, false, false, false, false, false, false, false, false, false, false, false, false, false, false, false, false, false, false, false, false, false, false, false, false, false, false, false] rfl rfl (any_of HT_.out (by kernel_rfl)) (fun _ _ _ h => h) (Or.inl ⟨by rfl, ?_⟩) ?_ ?_
          rotate_left
          ·intro w'
           go_simp
           with_reducible rfl
          rotate_left
          ·simp only [Act.put, List.setIfInBounds_toArray, List.set_cons_zero, List.set_cons_succ, i64_w, i32_w]
           rfl
          refine pure_ (i := 17) (N := some 41) (v := ?_) (a' := ?_) #[true, true, true, true, true, true, true, true, true, true, true, true, true, true, true, false, false, true, false, false, false, false, false, false, false, false, false, false, false, false, false, false, false, false, false, false, false, false, false, false, false, false, false, false, false, false, false, false, false] rfl rfl (any_of HT_.out (by kernel_rfl)) (fun _ _ _ h => h) (Or.inl ⟨by rfl, ?_⟩) ?_ ?_
          rotate_left
          ·intro w'
           go_simp
           with_reducible rfl
          rotate_left
          ·simp only [Act.put, List.setIfInBounds_toArray, List.set_cons_zero, List.set_cons_succ, i64_w, i32_w]
           rfl
          refine take_ (i := 15) (N := some 39) (v := ?_) (a' := ?_) #[true, true, true, true, true, true, true, true, true, true, true, true, true, true, true, true, false, true, false, false, false, false, false, false, false, false, false, false, false, false, false, false, false, false, false, false, false, false, false, false, false, false, false, false, false, false, false, false, false] rfl rfl (take_ofW HT_.out HW_.out (by kernel_rfl)) (fun _ _ _ h => h) (Or.inl ⟨by rfl, ?_⟩) hHeld ?_ ?_
          rotate_left
          ·rintro w' ⟨s0, s1, s2, s3⟩
           go_simp
           with_reducible rfl
          rotate_left
          ·simp only [Act.put, List.setIfInBounds_toArray, List.set_cons_zero, List.set_cons_succ, i64_w, i32_w]
           rfl
          refine take_ (i := 16) (N := some 40) (v := ?_) (a' := ?_) #[true, true, true, true, true, true, true, true, true, true, true, true, true, true, true, true, true, true, false, false, false, false, false, false, false, false, false, false, false, false, false, false, false, false, false, false, false, false, false, false, false, false, false, false, false, false, false, false, false] rfl rfl (take_ofW HT_.out HW_.out (by kernel_rfl)) (fun _ _ _ h => h) (Or.inl ⟨by rfl, ?_⟩) hHeld ?_ ?_
          rotate_left
          ·rintro w' ⟨s0, s1, s2, s3⟩
           go_simp
           with_reducible rfl
          rotate_left
          ·simp only [Act.put, List.setIfInBounds_toArray, List.set_cons_zero, List.set_cons_succ, i64_w, i32_w]
           rfl
          refine one_ (i := 18) (N := some 42) #[true, true, true, true, true, true, true, true, true, true, true, true, true, true, true, true, true, true, true, false, false, false, false, false, false, false, false, false, false, false, false, false, false, false, false, false, false, false, false, false, false, false, false, false, false, false, false, false, false] rfl rfl (one_of HT_.out (by kernel_rfl)) (by decide) (fun K hK => ?_)
          refine goes_ Tryd.func26 (by kernel_rfl) rfl #[.agg #[.int .u32 t207, .int .i64 t208], .agg #[.int .u32 t209, .int .i64 t210], .int .u32 a1] (by rfl) rfl rfl (by (try simp only [List.map_toArray, List.map_cons, List.map_nil]); first | done | rfl | (simp only [List.length_drop, List.length_take]; rfl)) ?_
          with_reducible refine (signpostlaw1_sameP.calls t207 t208 t209 t210 a1 true _ (HENV.out.below (by repeat (first | (with_reducible first | exact HB.out | apply below_alloc | apply pw_below_drewN | apply below_drew1 | refine below_set ?_ GE211.out | refine below_set ?_ GE212.out) | exact HB.out))) A18.out).mono ?_
          rintro e w43 ⟨rfl, hb⟩
          refine ⟨_, rfl, ?_⟩
          have n0_ := Aside0.mk (blk_below (g := gb211) (o := .cells #[.int .u32 t207, .int .i64 t208] 24 (0, 0)) (by (with_reducible repeat (first | refine blk_drewN ?_ _ | refine blk_drew ?_ | refine blk_alloc ?_ _)); exact BK211.out) hb)
          have n1_ := Aside0.mk (blk_below (g := gb212) (o := .cells #[.int .u32 t209, .int .i64 t210] 24 (0, 0)) (by (with_reducible repeat (first | refine blk_drewN ?_ _ | refine blk_drew ?_ | refine blk_alloc ?_ _)); exact BK212.out) hb)
          have n2_ := Aside0.mk (below_step (by repeat (first | (with_reducible first | exact HB.out | apply below_alloc | apply pw_below_drewN | apply below_drew1 | refine below_set ?_ GE211.out | refine below_set ?_ GE212.out) | exact HB.out)) hb)
          clear BK211
          clear BK212
          clear HB
          have BK211 := n0_
          have BK212 := n1_
          have HB := n2_
          clear n0_ n1_ n2_
          (try clear hb)
          (try clear hb2)
          (try clear hk)
          (try clear hi)
          refine hK.out _ _ ⟨(blk_cell BK211.out 0).trans rfl, (blk_cell BK211.out 1).trans rfl, (blk_cell BK212.out 0).trans rfl, (blk_cell BK212.out 1).trans rfl⟩ (fun hHeld => ?_)
          clear hK K
          refine norm_ (a' := ?_) ?_ ?_
          rotate_left
          ·show Act.put _ (some 42) _ = _
           simp only [Act.put, List.setIfInBounds_toArray, List.set_cons_zero, List.set_cons_succ, i64_w, i32_w]
           rfl
          refine pure_ (i := 19) (N := some 43) (v := ?_) (a' := ?_) #[true, true, true, true, true, true, true, true, true, true, true, true, true, true, true, true, true, true, true, true, false, false, false, false, false, false, false, false, false, false, false, false, false, false, false, false, false, false, false, false, false, false, false, false, false, false, false, false, false] rfl rfl (any_of HT_.out (by kernel_rfl)) (fun _ _ _ h => h) (Or.inl ⟨by rfl, ?_⟩) ?_ ?_
          rotate_left
          ·intro w'
           go_simp
           with_reducible rfl
          rotate_left
          ·simp only [Act.put, List.setIfInBounds_toArray, List.set_cons_zero, List.set_cons_succ, i64_w, i32_w]
           rfl
          refine pure_ (i := 20) (N := some 44) (v := ?_) (a' := ?_) #[true, true, true, true, true, true, true, true, true, true, true, true, true, true, true, true, true, true, true, true, true, false, false, false, false, false, false, false, false, false, false, false, false, false, false, false, false, false, false, false, false, false, false, false, false, false, false, false, false] rfl rfl (any_of HT_.out (by kernel_rfl)) (fun _ _ _ h => h) (Or.inl ⟨by rfl, ?_⟩) ?_ ?_
          rotate_left
          ·intro w'
           go_simp
           with_reducible rfl
          rotate_left
          ·simp only [Act.put, List.setIfInBounds_toArray, List.set_cons_zero, List.set_cons_succ, i64_w, i32_w]
           rfl
          refine pure_ (i := 21) (N := some 45) (v := ?_) (a' := ?_) #[true, true, true, true, true, true, true, true, true, true, true, true, true, true, true, true, true, true, true, true, true, true, false, false, false, false, false, false, false, false, false, false, false, false, false, false, false, false, false, false, false, false, false, false, false, false, false, false, false] rfl rfl (any_of HT_.out (by kernel_rfl)) (fun _ _ _ h => h) (Or.inl ⟨by rfl, ?_⟩) ?_ ?_
          rotate_left
          ·intro w'
           go_simp
           with_reducible rfl
          rotate_left
          ·simp only [Act.put, List.setIfInBounds_toArray, List.set_cons_zero, List.set_cons_succ, i64_w, i32_w]
           rfl
          refine pure_ (i := 22) (N := some 46) (v := ?_) (a' := ?_) #[true, true, true, true, true, true, true, true, true, true, true, true, true, true, true, true, true, true, true, true, true, true, true, false, false, false, false, false, false, false, false, false, false, false, false, false, false, false, false, false, false, false, false, false, false, false, false, false, false] rfl rfl (any_of HT_.out (by kernel_rfl)) (fun _ _ _ h => h) (Or.inl ⟨by rfl, ?_⟩) ?_ ?_
          rotate_left
          ·intro w'
           go_simp
           with_reducible rfl
          rotate_left
          ·simp only [Act.put, List.setIfInBounds_toArray, List.set_cons_zero, List.set_cons_succ, i64_w, i32_w]
           rfl
          refine pure_ (i := 23) (N := some 47) (v := ?_) (a' := ?_) #[true, true, true, true, true, true, true, true, true, true, true, true, true, true, true, true, true, true, true, true, true, true, true, true, false, false, false, false, false, false, false, false, false, false, false, false, false, false, false, false, false, false, false, false, false, false, false, false, false] rfl rfl (any_of HT_.out (by kernel_rfl)) (fun _ _ _ h => h) (Or.inl ⟨by rfl, ?_⟩) ?_ ?_
          rotate_left
          ·intro w'
           go_simp
           with_reducible rfl
          rotate_left
          ·simp only [Act.put, List.setIfInBounds_toArray, List.set_cons_zero, List.set_cons_succ, i64_w, i32_w]
           rfl
          refine pure_ (i := 25) (N := some 49) (v := ?_) (a' := ?_) #[true, true, true, true, true, true, true, true, true, true, true, true, true, true, true, true, true, true, true, true, true, true, true, true, false, true, false, false, false, false, false, false, false, false, false, false, false, false, false, false, false, false, false, false, false, false, false, false, false] rfl rfl (any_of HT_.out (by kernel_rfl)) (fun _ _ _ h => h) (Or.inl ⟨by rfl, ?_⟩) ?_ ?_
          rotate_left
          ·intro w'
           go_simp
           with_reducible rfl
          rotate_left
          ·simp only [Act.put, List.setIfInBounds_toArray, List.set_cons_zero, List.set_cons_succ, i64_w, i32_w]
           rfl
          refine take_ (i := 24) (N := some 48) (v := ?_) (a' := ?_) #[true, true, true, true, true, true, true, true, true, true, true, true, true, true, true, true, true, true, true, true, true, true, true, true, true, true, false, false, false, false, false, false, false, false, false, false, false, false, false, false, false, false, false, false, false, false, false, false, false] rfl rfl (take_ofW HT_.out HW_.out (by kernel_rfl)) (fun _ _ _ h => h) (Or.inl ⟨by rfl, ?_⟩) hHeld ?_ ?_
          rotate_left
          ·rintro w' ⟨s0, s1, s2, s3⟩
           go_simp
           with_reducible rfl
          rotate_left
          ·simp only [Act.put, List.setIfInBounds_toArray, List.set_cons_zero, List.set_cons_succ, i64_w, i32_w]
           rfl
          refine one_ (i := 26) (N := some 50) #[true, true, true, true, true, true, true, true, true, true, true, true, true, true, true, true, true, true, true, true, true, true, true, true, true, true, true, false, false, false, false, false, false, false, false, false, false, false, false, false, false, false, false, false, false, false, false, false, false] rfl rfl (one_of HT_.out (by kernel_rfl)) (by decide) (fun K hK => ?_)
          refine goes_ Tryd.func26 (by kernel_rfl) rfl #[.agg #[.int .u32 a0, .int .i64 a2], .agg #[.int .u32 t209, .int .i64 t210], .int .u32 a1] (by rfl) rfl rfl (by (try simp only [List.map_toArray, List.map_cons, List.map_nil]); first | done | rfl | (simp only [List.length_drop, List.length_take]; rfl)) ?_
          with_reducible refine (signpostlaw1_sameP.calls a0 a2 t209 t210 a1 true _ (HENV.out.below (by repeat (first | (with_reducible first | exact HB.out | apply below_alloc | apply pw_below_drewN | apply below_drew1 | refine below_set ?_ GE211.out | refine below_set ?_ GE212.out) | exact HB.out))) A20.out).mono ?_
          rintro e w44 ⟨rfl, hb⟩
          refine ⟨_, rfl, ?_⟩
          have n0_ := Aside0.mk (blk_below (g := gb211) (o := .cells #[.int .u32 t207, .int .i64 t208] 24 (0, 0)) (by (with_reducible repeat (first | refine blk_drewN ?_ _ | refine blk_drew ?_ | refine blk_alloc ?_ _)); exact BK211.out) hb)
          have n1_ := Aside0.mk (blk_below (g := gb212) (o := .cells #[.int .u32 t209, .int .i64 t210] 24 (0, 0)) (by (with_reducible repeat (first | refine blk_drewN ?_ _ | refine blk_drew ?_ | refine blk_alloc ?_ _)); exact BK212.out) hb)
          have n2_ := Aside0.mk (below_step (by repeat (first | (with_reducible first | exact HB.out | apply below_alloc | apply pw_below_drewN | apply below_drew1 | refine below_set ?_ GE211.out | refine below_set ?_ GE212.out) | exact HB.out)) hb)
          clear BK211
          clear BK212
          clear HB
          have BK211 := n0_
          have BK212 := n1_
          have HB := n2_
          clear n0_ n1_ n2_
          (try clear hb)
          (try clear hb2)
          (try clear hk)
          (try clear hi)
          refine hK.out _ _ ⟨(blk_cell BK211.out 0).trans rfl, (blk_cell BK211.out 1).trans rfl, (blk_cell BK212.out 0).trans rfl, (blk_cell BK212.out 1).trans rfl⟩ (fun hHeld => ?_)
          clear hK K
          refine norm_ (a' := ?_) ?_ ?_
          rotate_left
          ·show Act.put _ (some 50) _ = _
           simp only [Act.put, List.setIfInBounds_toArray, List.set_cons_zero, List.set_cons_succ, i64_w, i32_w]
           rfl
          refine pure_ (i := 27) (N := some 51) (v := ?_) (a' := ?_) #[true, true, true, true, true, true, true, true, true, true, true, true, true, true, true, true, true, true, true, true, true, true, true, true, true, true, true, true, false, false, false, false, false, false, false, false, false, false, false, false, false, false, false, false, false, false, false, false, false] rfl rfl (any_of HT_.out (by kernel_rfl)) (fun _ _ _ h => h) (Or.inl ⟨by rfl, ?_⟩) ?_ ?_
          rotate_left
          ·intro w'
           go_simp
           with_reducible rfl
          rotate_left
          ·simp only [Act.put, List.setIfInBounds_toArray, List.set_cons_zero, List.set_cons_succ, i64_w, i32_w]
           rfl
          refine pure_ (i := 28) (N := some 52) (v := ?_) (a' := ?_) #[true, true, true, true, true, true, true, true, true, true, true, true, true, true, true, true, true, true, true, true, true, true, true, true, true, true, true, true, true, false, false, false, false, false, false, false, false, false, false, false, false, false, false, false, false, false, false, false, false] rfl rfl (any_of HT_.out (by kernel_rfl)) (fun _ _ _ h => h) (Or.inl ⟨by rfl, ?_⟩) ?_ ?_
          rotate_left
          ·intro w'
           go_simp
           with_reducible rfl
          rotate_left
          ·simp only [Act.put, List.setIfInBounds_toArray, List.set_cons_zero, List.set_cons_succ, i64_w, i32_w]
           rfl
          refine pure_ (i := 30) (N := some 54) (v := ?_) (a' := ?_) #[true, true, true, true, true, true, true, true, true, true, true, true, true, true, true, true, true, true, true, true, true, true, true, true, true, true, true, true, true, false, true, false, false, false, false, false, false, false, false, false, false, false, false, false, false, false, false, false, false] rfl rfl (any_of HT_.out (by kernel_rfl)) (fun _ _ _ h => h) (Or.inl ⟨by rfl, ?_⟩) ?_ ?_
          rotate_left
          ·intro w'
           go_simp
           with_reducible rfl
          rotate_left
          ·simp only [Act.put, List.setIfInBounds_toArray, List.set_cons_zero, List.set_cons_succ, i64_w, i32_w]
           rfl
          refine pure_ (i := 31) (N := some 55) (v := ?_) (a' := ?_) #[true, true, true, true, true, true, true, true, true, true, true, true, true, true, true, true, true, true, true, true, true, true, true, true, true, true, true, true, true, false, true, true, false, false, false, false, false, false, false, false, false, false, false, false, false, false, false, false, false] rfl rfl (any_of HT_.out (by kernel_rfl)) (fun _ _ _ h => h) (Or.inl ⟨by rfl, ?_⟩) ?_ ?_
          rotate_left
          ·intro w'
           go_simp
           with_reducible rfl
          rotate_left
          ·simp only [Act.put, List.setIfInBounds_toArray, List.set_cons_zero, List.set_cons_succ, i64_w, i32_w]
           rfl
          refine pure_ (i := 33) (N := some 57) (v := ?_) (a' := ?_) #[true, true, true, true, true, true, true, true, true, true, true, true, true, true, true, true, true, true, true, true, true, true, true, true, true, true, true, true, true, false, true, true, false, true, false, false, false, false, false, false, false, false, false, false, false, false, false, false, false] rfl rfl (any_of HT_.out (by kernel_rfl)) (fun _ _ _ h => h) (Or.inl ⟨by rfl, ?_⟩) ?_ ?_
          rotate_left
          ·intro w'
           go_simp
           with_reducible rfl
          rotate_left
          ·simp only [Act.put, List.setIfInBounds_toArray, List.set_cons_zero, List.set_cons_succ, i64_w, i32_w]
           rfl
          refine take_ (i := 29) (N := some 53) (v := ?_) (a' := ?_) #[true, true, true, true, true, true, true, true, true, true, true, true, true, true, true, true, true, true, true, true, true, true, true, true, true, true, true, true, true, true, true, true, false, true, false, false, false, false, false, false, false, false, false, false, false, false, false, false, false] rfl rfl (take_ofW HT_.out HW_.out (by kernel_rfl)) (fun _ _ _ h => h) (Or.inl ⟨by rfl, ?_⟩) hHeld ?_ ?_
          rotate_left
          ·rintro w' ⟨s0, s1, s2, s3⟩
           go_simp
           with_reducible rfl
          rotate_left
          ·simp only [Act.put, List.setIfInBounds_toArray, List.set_cons_zero, List.set_cons_succ, i64_w, i32_w]
           rfl
          refine one_ (i := 32) (N := some 56) #[true, true, true, true, true, true, true, true, true, true, true, true, true, true, true, true, true, true, true, true, true, true, true, true, true, true, true, true, true, true, true, true, true, true, false, false, false, false, false, false, false, false, false, false, false, false, false, false, false] rfl rfl (one_of HT_.out (by kernel_rfl)) (by decide) (fun K hK => ?_)
          refine goes_ Tryd.func11 (by kernel_rfl) rfl #[.int .u32 a0, .int .i64 a3] (by rfl) rfl rfl (by (try simp only [List.map_toArray, List.map_cons, List.map_nil]); first | done | rfl | (simp only [List.length_drop, List.length_take]; rfl)) ?_
          with_reducible refine (signpostkeep_Any.calls kj5 a0 a3 t221 t222 _ A22.out).mono ?_
          rintro e w45 ⟨rfl, hb⟩
          refine ⟨_, rfl, ?_⟩
          have n0_ := Aside0.mk (blk_below (g := gb211) (o := .cells #[.int .u32 t207, .int .i64 t208] 24 (0, 0)) (by (with_reducible repeat (first | refine blk_drewN ?_ _ | refine blk_drew ?_ | refine blk_alloc ?_ _)); exact BK211.out) hb)
          have n1_ := Aside0.mk (blk_below (g := gb212) (o := .cells #[.int .u32 t209, .int .i64 t210] 24 (0, 0)) (by (with_reducible repeat (first | refine blk_drewN ?_ _ | refine blk_drew ?_ | refine blk_alloc ?_ _)); exact BK212.out) hb)
          have n2_ := Aside0.mk (below_step (by repeat (first | (with_reducible first | exact HB.out | apply below_alloc | apply pw_below_drewN | apply below_drew1 | refine below_set ?_ GE211.out | refine below_set ?_ GE212.out) | exact HB.out)) hb)
          clear BK211
          clear BK212
          clear HB
          have BK211 := n0_
          have BK212 := n1_
          have HB := n2_
          clear n0_ n1_ n2_
          (try clear hb)
          (try clear hb2)
          (try clear hk)
          (try clear hi)
          refine hK.out _ _ ⟨(blk_cell BK211.out 0).trans rfl, (blk_cell BK211.out 1).trans rfl, (blk_cell BK212.out 0).trans rfl, (blk_cell BK212.out 1).trans rfl⟩ (fun hHeld => ?_)
          clear hK K
          refine norm_ (a' := ?_) ?_ ?_
          rotate_left
          ·show Act.put _ (some 56) _ = _
           simp only [Act.put, List.setIfInBounds_toArray, List.set_cons_zero, List.set_cons_succ, i64_w, i32_w]
           rfl
          refine one_ (i := 34) (N := some 58) #[true, true, true, true, true, true, true, true, true, true, true, true, true, true, true, true, true, true, true, true, true, true, true, true, true, true, true, true, true, true, true, true, true, true, true, false, false, false, false, false, false, false, false, false, false, false, false, false, false] rfl rfl (one_of HT_.out (by kernel_rfl)) (by decide) (fun K hK => ?_)
          refine goes_ Tryd.func26 (by kernel_rfl) rfl #[.agg #[.int .u32 t207, .int .i64 t208], .agg #[.int .u32 t221, .int .i64 t222], .int .u32 a1] (by rfl) rfl rfl (by (try simp only [List.map_toArray, List.map_cons, List.map_nil]); first | done | rfl | (simp only [List.length_drop, List.length_take]; rfl)) ?_
          with_reducible refine (signpostlaw1_sameP.calls t207 t208 t221 t222 a1 true _ (HENV.out.below (by repeat (first | (with_reducible first | exact HB.out | apply below_alloc | apply pw_below_drewN | apply below_drew1 | refine below_set ?_ GE211.out | refine below_set ?_ GE212.out) | exact HB.out))) A23.out).mono ?_
          rintro e w46 ⟨rfl, hb⟩
          refine ⟨_, rfl, ?_⟩
          have n0_ := Aside0.mk (blk_below (g := gb211) (o := .cells #[.int .u32 t207, .int .i64 t208] 24 (0, 0)) (by (with_reducible repeat (first | refine blk_drewN ?_ _ | refine blk_drew ?_ | refine blk_alloc ?_ _)); exact BK211.out) hb)
          have n1_ := Aside0.mk (blk_below (g := gb212) (o := .cells #[.int .u32 t209, .int .i64 t210] 24 (0, 0)) (by (with_reducible repeat (first | refine blk_drewN ?_ _ | refine blk_drew ?_ | refine blk_alloc ?_ _)); exact BK212.out) hb)
          have n2_ := Aside0.mk (below_step (by repeat (first | (with_reducible first | exact HB.out | apply below_alloc | apply pw_below_drewN | apply below_drew1 | refine below_set ?_ GE211.out | refine below_set ?_ GE212.out) | exact HB.out)) hb)
          clear BK211
          clear BK212
          clear HB
          have BK211 := n0_
          have BK212 := n1_
          have HB := n2_
          clear n0_ n1_ n2_
          (try clear hb)
          (try clear hb2)
          (try clear hk)
          (try clear hi)
          refine hK.out _ _ ⟨(blk_cell BK211.out 0).trans rfl, (blk_cell BK211.out 1).trans rfl, (blk_cell BK212.out 0).trans rfl, (blk_cell BK212.out 1).trans rfl⟩ (fun hHeld => ?_)
          clear hK K
          refine norm_ (a' := ?_) ?_ ?_
          rotate_left
          ·show Act.put _ (some 58) _ = _
           simp only [Act.put, List.setIfInBounds_toArray, List.set_cons_zero, List.set_cons_succ, i64_w, i32_w]
           rfl
          refine pure_ (i := 35) (N := some 59) (v := ?_) (a' := ?_) #[true, true, true, true, true, true, true, true, true, true, true, true, true, true, true, true, true, true, true, true, true, true, true, true, true, true, true, true, true, true, true, true, true, true, true, true, false, false, false, false, false, false, false, false, false, false, false, false, false] rfl rfl (any_of HT_.out (by kernel_rfl)) (fun _ _ _ h => h) (Or.inl ⟨by rfl, ?_⟩) ?_ ?_
          rotate_left
          ·intro w'
           go_simp
           with_reducible rfl
          rotate_left
          ·simp only [Act.put, List.setIfInBounds_toArray, List.set_cons_zero, List.set_cons_succ, i64_w, i32_w]
           rfl
          refine pure_ (i := 36) (N := some 60) (v := ?_) (a' := ?_) #[true, true, true, true, true, true, true, true, true, true, true, true, true, true, true, true, true, true, true, true, true, true, true, true, true, true, true, true, true, true, true, true, true, true, true, true, true, false, false, false, false, false, false, false, false, false, false, false, false] rfl rfl (any_of HT_.out (by kernel_rfl)) (fun _ _ _ h => h) (Or.inl ⟨by rfl, ?_⟩) ?_ ?_
          rotate_left
          ·intro w'
           go_simp
           with_reducible rfl
          rotate_left
          ·simp only [Act.put, List.setIfInBounds_toArray, List.set_cons_zero, List.set_cons_succ, i64_w, i32_w]
           rfl
          refine pure_ (i := 37) (N := some 61) (v := ?_) (a' := ?_) #[true, true, true, true, true, true, true, true, true, true, true, true, true, true, true, true, true, true, true, true, true, true, true, true, true, true, true, true, true, true, true, true, true, true, true, true, true, true, false, false, false, false, false, false, false, false, false, false, false] rfl rfl (any_of HT_.out (by kernel_rfl)) (fun _ _ _ h => h) (Or.inl ⟨by rfl, ?_⟩) ?_ ?_
          rotate_left
          ·intro w'
           go_simp
           with_reducible rfl
          rotate_left
          ·simp only [Act.put, List.setIfInBounds_toArray, List.set_cons_zero, List.set_cons_succ, i64_w, i32_w]
           rfl
          refine one_ (i := 38) (N := some 62) #[true, true, true, true, true, true, true, true, true, true, true, true, true, true, true, true, true, true, true, true, true, true, true, true, true, true, true, true, true, true, true, true, true, true, true, true, true, true, true, false, false, false, false, false, false, false, false, false, false] rfl rfl (one_of HT_.out (by kernel_rfl)) (by decide) (fun K hK => ?_)
          refine goes_ Tryd.func27 (by kernel_rfl) rfl #[.string x4_5] (by rfl) rfl rfl (by (try simp only [List.map_toArray, List.map_cons, List.map_nil]); first | done | rfl | (simp only [List.length_drop, List.length_take]; rfl)) ?_
          with_reducible refine (signpostlaw1_readP.calls x4_5 true _ (HENV.out.below (by repeat (first | (with_reducible first | exact HB.out | apply below_alloc | apply pw_below_drewN | apply below_drew1 | refine below_set ?_ GE211.out | refine below_set ?_ GE212.out) | exact HB.out))) A25.out).mono ?_
          rintro e w47 ⟨rfl, hb⟩
          refine ⟨_, rfl, ?_⟩
          have n0_ := Aside0.mk (blk_below (g := gb211) (o := .cells #[.int .u32 t207, .int .i64 t208] 24 (0, 0)) (by (with_reducible repeat (first | refine blk_drewN ?_ _ | refine blk_drew ?_ | refine blk_alloc ?_ _)); exact BK211.out) hb)
          have n1_ := Aside0.mk (blk_below (g := gb212) (o := .cells #[.int .u32 t209, .int .i64 t210] 24 (0, 0)) (by (with_reducible repeat (first | refine blk_drewN ?_ _ | refine blk_drew ?_ | refine blk_alloc ?_ _)); exact BK212.out) hb)
          have n2_ := Aside0.mk (below_step (by repeat (first | (with_reducible first | exact HB.out | apply below_alloc | apply pw_below_drewN | apply below_drew1 | refine below_set ?_ GE211.out | refine below_set ?_ GE212.out) | exact HB.out)) hb)
          clear BK211
          clear BK212
          clear HB
          have BK211 := n0_
          have BK212 := n1_
          have HB := n2_
          clear n0_ n1_ n2_
          (try clear hb)
          (try clear hb2)
          (try clear hk)
          (try clear hi)
          refine hK.out _ _ ⟨(blk_cell BK211.out 0).trans rfl, (blk_cell BK211.out 1).trans rfl, (blk_cell BK212.out 0).trans rfl, (blk_cell BK212.out 1).trans rfl⟩ (fun hHeld => ?_)
          clear hK K
          refine norm_ (a' := ?_) ?_ ?_
          rotate_left
          ·show Act.put _ (some 62) _ = _
           simp only [Act.put, List.setIfInBounds_toArray, List.set_cons_zero, List.set_cons_succ, i64_w, i32_w]
           rfl
          refine pure_ (i := 39) (N := some 63) (v := ?_) (a' := ?_) #[true, true, true, true, true, true, true, true, true, true, true, true, true, true, true, true, true, true, true, true, true, true, true, true, true, true, true, true, true, true, true, true, true, true, true, true, true, true, true, true, false, false, false, false, false, false, false, false, false] rfl rfl (any_of HT_.out (by kernel_rfl)) (fun _ _ _ h => h) (Or.inl ⟨by rfl, ?_⟩) ?_ ?_
          rotate_left
          ·intro w'
           go_simp
           with_reducible rfl
          rotate_left
          ·simp only [Act.put, List.setIfInBounds_toArray, List.set_cons_zero, List.set_cons_succ, i64_w, i32_w]
           rfl
          refine pure_ (i := 40) (N := some 64) (v := ?_) (a' := ?_) #[true, true, true, true, true, true, true, true, true, true, true, true, true, true, true, true, true, true, true, true, true, true, true, true, true, true, true, true, true, true, true, true, true, true, true, true, true, true, true, true, true, false, false, false, false, false, false, false, false] rfl rfl (any_of HT_.out (by kernel_rfl)) (fun _ _ _ h => h) (Or.inl ⟨by rfl, ?_⟩) ?_ ?_
          rotate_left
          ·intro w'
           go_simp
           with_reducible rfl
          rotate_left
          ·simp only [Act.put, List.setIfInBounds_toArray, List.set_cons_zero, List.set_cons_succ, i64_w, i32_w]
           rfl
          refine take_ (i := 41) (N := some 65) (v := ?_) (a' := ?_) #[true, true, true, true, true, true, true, true, true, true, true, true, true, true, true, true, true, true, true, true, true, true, true, true, true, true, true, true, true, true, true, true, true, true, true, true, true, true, true, true, true, true, false, false, false, false, false, false, false] rfl rfl (take_ofW HT_.out HW_.out (by kernel_rfl)) (fun _ _ _ h => h) (Or.inl ⟨by rfl, ?_⟩) hHeld ?_ ?_
          rotate_left
          ·rintro w' ⟨s0, s1, s2, s3⟩
           go_simp
           with_reducible rfl
          rotate_left
          ·simp only [Act.put, List.setIfInBounds_toArray, List.set_cons_zero, List.set_cons_succ, i64_w, i32_w]
           rfl
          refine one_ (i := 42) (N := some 66) #[true, true, true, true, true, true, true, true, true, true, true, true, true, true, true, true, true, true, true, true, true, true, true, true, true, true, true, true, true, true, true, true, true, true, true, true, true, true, true, true, true, true, true, false, false, false, false, false, false] rfl rfl (one_of HT_.out (by kernel_rfl)) (by decide) (fun K hK => ?_)
          refine goes_ Tryd.func28 (by kernel_rfl) rfl #[.agg #[.int .u32 t207, .int .i64 t208]] (by rfl) rfl rfl (by (try simp only [List.map_toArray, List.map_cons, List.map_nil]); first | done | rfl | (simp only [List.length_drop, List.length_take]; rfl)) ?_
          with_reducible refine (signpostref1_TextP.calls t207 t208 t225 _ A27.out).mono ?_
          rintro e w48 ⟨rfl, hb⟩
          refine ⟨_, rfl, ?_⟩
          have n0_ := Aside0.mk (blk_below (g := gb211) (o := .cells #[.int .u32 t207, .int .i64 t208] 24 (0, 0)) (by (with_reducible repeat (first | refine blk_drewN ?_ _ | refine blk_drew ?_ | refine blk_alloc ?_ _)); exact BK211.out) hb)
          have n1_ := Aside0.mk (blk_below (g := gb212) (o := .cells #[.int .u32 t209, .int .i64 t210] 24 (0, 0)) (by (with_reducible repeat (first | refine blk_drewN ?_ _ | refine blk_drew ?_ | refine blk_alloc ?_ _)); exact BK212.out) hb)
          have n2_ := Aside0.mk (below_step (by repeat (first | (with_reducible first | exact HB.out | apply below_alloc | apply pw_below_drewN | apply below_drew1 | refine below_set ?_ GE211.out | refine below_set ?_ GE212.out) | exact HB.out)) hb)
          clear BK211
          clear BK212
          clear HB
          have BK211 := n0_
          have BK212 := n1_
          have HB := n2_
          clear n0_ n1_ n2_
          (try clear hb)
          (try clear hb2)
          (try clear hk)
          (try clear hi)
          refine hK.out _ _ ⟨(blk_cell BK211.out 0).trans rfl, (blk_cell BK211.out 1).trans rfl, (blk_cell BK212.out 0).trans rfl, (blk_cell BK212.out 1).trans rfl⟩ (fun hHeld => ?_)
          clear hK K
          refine norm_ (a' := ?_) ?_ ?_
          rotate_left
          ·show Act.put _ (some 66) _ = _
           simp only [Act.put, List.setIfInBounds_toArray, List.set_cons_zero, List.set_cons_succ, i64_w, i32_w]
           rfl
          refine one_ (i := 43) (N := some 67) #[true, true, true, true, true, true, true, true, true, true, true, true, true, true, true, true, true, true, true, true, true, true, true, true, true, true, true, true, true, true, true, true, true, true, true, true, true, true, true, true, true, true, true, true, false, false, false, false, false] rfl rfl (one_of HT_.out (by kernel_rfl)) (by decide) (fun K hK => ?_)
          refine goes_ Tryd.func27 (by kernel_rfl) rfl #[.string t225] (by rfl) rfl rfl (by (try simp only [List.map_toArray, List.map_cons, List.map_nil]); first | done | rfl | (simp only [List.length_drop, List.length_take]; rfl)) ?_
          with_reducible refine (signpostlaw1_readP.calls t225 true _ (HENV.out.below (by repeat (first | (with_reducible first | exact HB.out | apply below_alloc | apply pw_below_drewN | apply below_drew1 | refine below_set ?_ GE211.out | refine below_set ?_ GE212.out) | exact HB.out))) A28.out).mono ?_
          rintro e w49 ⟨rfl, hb⟩
          refine ⟨_, rfl, ?_⟩
          have n0_ := Aside0.mk (blk_below (g := gb211) (o := .cells #[.int .u32 t207, .int .i64 t208] 24 (0, 0)) (by (with_reducible repeat (first | refine blk_drewN ?_ _ | refine blk_drew ?_ | refine blk_alloc ?_ _)); exact BK211.out) hb)
          have n1_ := Aside0.mk (blk_below (g := gb212) (o := .cells #[.int .u32 t209, .int .i64 t210] 24 (0, 0)) (by (with_reducible repeat (first | refine blk_drewN ?_ _ | refine blk_drew ?_ | refine blk_alloc ?_ _)); exact BK212.out) hb)
          have n2_ := Aside0.mk (below_step (by repeat (first | (with_reducible first | exact HB.out | apply below_alloc | apply pw_below_drewN | apply below_drew1 | refine below_set ?_ GE211.out | refine below_set ?_ GE212.out) | exact HB.out)) hb)
          clear BK211
          clear BK212
          clear HB
          have BK211 := n0_
          have BK212 := n1_
          have HB := n2_
          clear n0_ n1_ n2_
          (try clear hb)
          (try clear hb2)
          (try clear hk)
          (try clear hi)
          refine hK.out _ _ ⟨(blk_cell BK211.out 0).trans rfl, (blk_cell BK211.out 1).trans rfl, (blk_cell BK212.out 0).trans rfl, (blk_cell BK212.out 1).trans rfl⟩ (fun hHeld => ?_)
          clear hK K
          refine norm_ (a' := ?_) ?_ ?_
          rotate_left
          ·show Act.put _ (some 67) _ = _
           simp only [Act.put, List.setIfInBounds_toArray, List.set_cons_zero, List.set_cons_succ, i64_w, i32_w]
           rfl
          refine pure_ (i := 44) (N := some 68) (v := ?_) (a' := ?_) #[true, true, true, true, true, true, true, true, true, true, true, true, true, true, true, true, true, true, true, true, true, true, true, true, true, true, true, true, true, true, true, true, true, true, true, true, true, true, true, true, true, true, true, true, true, false, false, false, false] rfl rfl (any_of HT_.out (by kernel_rfl)) (fun _ _ _ h => h) (Or.inl ⟨by rfl, ?_⟩) ?_ ?_
          rotate_left
          ·intro w'
           go_simp
           with_reducible rfl
          rotate_left
          ·simp only [Act.put, List.setIfInBounds_toArray, List.set_cons_zero, List.set_cons_succ, i64_w, i32_w]
           rfl
          refine pure_ (i := 45) (N := some 69) (v := ?_) (a' := ?_) #[true, true, true, true, true, true, true, true, true, true, true, true, true, true, true, true, true, true, true, true, true, true, true, true, true, true, true, true, true, true, true, true, true, true, true, true, true, true, true, true, true, true, true, true, true, true, false, false, false] rfl rfl (any_of HT_.out (by kernel_rfl)) (fun _ _ _ h => h) (Or.inl ⟨by rfl, ?_⟩) ?_ ?_
          rotate_left
          ·intro w'
           go_simp
           with_reducible rfl
          rotate_left
          ·simp only [Act.put, List.setIfInBounds_toArray, List.set_cons_zero, List.set_cons_succ, i64_w, i32_w]
           rfl
          refine one_ (i := 46) (N := some 70) #[true, true, true, true, true, true, true, true, true, true, true, true, true, true, true, true, true, true, true, true, true, true, true, true, true, true, true, true, true, true, true, true, true, true, true, true, true, true, true, true, true, true, true, true, true, true, true, false, false] rfl rfl (one_of HT_.out (by kernel_rfl)) (by decide) (fun K hK => ?_)
          refine goes_ Tryd.func15 (by kernel_rfl) rfl #[] (by rfl) rfl rfl (by (try simp only [List.map_toArray, List.map_cons, List.map_nil]); first | done | rfl | (simp only [List.length_drop, List.length_take]; rfl)) ?_
          with_reducible refine (signpostlaw1_known.calls  t227 _ (HENV.out.below (by repeat (first | (with_reducible first | exact HB.out | apply below_alloc | apply pw_below_drewN | apply below_drew1 | refine below_set ?_ GE211.out | refine below_set ?_ GE212.out) | exact HB.out))) A30.out).mono ?_
          rintro e w50 ⟨rfl, hb⟩
          refine ⟨_, rfl, ?_⟩
          have n0_ := Aside0.mk (blk_below (g := gb211) (o := .cells #[.int .u32 t207, .int .i64 t208] 24 (0, 0)) (by (with_reducible repeat (first | refine blk_drewN ?_ _ | refine blk_drew ?_ | refine blk_alloc ?_ _)); exact BK211.out) hb)
          have n1_ := Aside0.mk (blk_below (g := gb212) (o := .cells #[.int .u32 t209, .int .i64 t210] 24 (0, 0)) (by (with_reducible repeat (first | refine blk_drewN ?_ _ | refine blk_drew ?_ | refine blk_alloc ?_ _)); exact BK212.out) hb)
          have n2_ := Aside0.mk (below_step (by repeat (first | (with_reducible first | exact HB.out | apply below_alloc | apply pw_below_drewN | apply below_drew1 | refine below_set ?_ GE211.out | refine below_set ?_ GE212.out) | exact HB.out)) hb)
          clear BK211
          clear BK212
          clear HB
          have BK211 := n0_
          have BK212 := n1_
          have HB := n2_
          clear n0_ n1_ n2_
          (try clear hb)
          (try clear hb2)
          (try clear hk)
          (try clear hi)
          refine hK.out _ _ ⟨(blk_cell BK211.out 0).trans rfl, (blk_cell BK211.out 1).trans rfl, (blk_cell BK212.out 0).trans rfl, (blk_cell BK212.out 1).trans rfl⟩ (fun hHeld => ?_)
          clear hK K
          refine norm_ (a' := ?_) ?_ ?_
          rotate_left
          ·show Act.put _ (some 70) _ = _
           simp only [Act.put, List.setIfInBounds_toArray, List.set_cons_zero, List.set_cons_succ, i64_w, i32_w]
           rfl
          refine pure_ (i := 47) (N := some 71) (v := ?_) (a' := ?_) #[true, true, true, true, true, true, true, true, true, true, true, true, true, true, true, true, true, true, true, true, true, true, true, true, true, true, true, true, true, true, true, true, true, true, true, true, true, true, true, true, true, true, true, true, true, true, true, true, false] rfl rfl (any_of HT_.out (by kernel_rfl)) (fun _ _ _ h => h) (Or.inl ⟨by rfl, ?_⟩) ?_ ?_
          rotate_left
          ·intro w'
           go_simp
           with_reducible rfl
          rotate_left
          ·simp only [Act.put, List.setIfInBounds_toArray, List.set_cons_zero, List.set_cons_succ, i64_w, i32_w]
           rfl
          refine pure_ (i := 48) (N := some 10) (v := ?_) (a' := ?_) #[true, true, true, true, true, true, true, true, true, true, true, true, true, true, true, true, true, true, true, true, true, true, true, true, true, true, true, true, true, true, true, true, true, true, true, true, true, true, true, true, true, true, true, true, true, true, true, true, true] rfl rfl (any_of HT_.out (by kernel_rfl)) (fun _ _ _ h => h) (Or.inl ⟨by rfl, ?_⟩) ?_ ?_
          rotate_left
          ·intro w'
           go_simp
           with_reducible rfl
          rotate_left
          ·simp only [Act.put, List.setIfInBounds_toArray, List.set_cons_zero, List.set_cons_succ, i64_w, i32_w]
           rfl
          refine done_ (done_of HT_.out (by kernel_rfl)) ?_
          try go_wp2
          go_ret
          exact ⟨by first | rfl | (simp [errW_none, errW_some] <;> rfl) | (simp [*, errW_none, errW_some] <;> rfl), by repeat (first | (with_reducible first | exact HB.out | apply below_alloc | apply pw_below_drewN | apply below_drew1 | refine below_set ?_ GE211.out | refine below_set ?_ GE212.out) | exact HB.out)⟩
         ·replace c29 := Bool.eq_false_iff.mpr c29
          subst c29
          have H1 : (some false) = some r := by rw [if_neg (show ¬ (false = true) by decide)] at H; exact H
          clear H
          have H := H1
          clear H1
          exact absurd ((Option.some.inj H).trans hr) (by decide)
        ·replace c26 := Bool.eq_false_iff.mpr c26
         subst c26
         have H1 : (some false) = some r := by rw [if_neg (show ¬ (false = true) by decide)] at H; exact H
         clear H
         have H := H1
         clear H1
         exact absurd ((Option.some.inj H).trans hr) (by decide)
       ·replace c24 := Bool.eq_false_iff.mpr c24
        subst c24
        have H1 : (some false) = some r := by rw [if_neg (show ¬ (false = true) by decide)] at H; exact H
        clear H
        have H := H1
        clear H1
        exact absurd ((Option.some.inj H).trans hr) (by decide)
      ·replace c21 := Bool.eq_false_iff.mpr c21
       subst c21
       have H1 : (some false) = some r := by rw [if_neg (show ¬ (false = true) by decide)] at H; exact H
       clear H
       have H := H1
       clear H1
       exact absurd ((Option.some.inj H).trans hr) (by decide)
     ·replace c19 := Bool.eq_false_iff.mpr c19
      subst c19
      have H1 : (some false) = some r := by rw [if_neg (show ¬ (false = true) by decide)] at H; exact H
      clear H
      have H := H1
      clear H1
      exact absurd ((Option.some.inj H).trans hr) (by decide)
    ·rw [if_neg c17] at H
     have c17b0 : (t215 == t217 && (t216 == t218)) = false := by simpa using c17
     (try (have c17b1 : decide (t215 = t217 && (t216 == t218)) = false := by simpa using c17))
     (try (have c17b2 : (t215 == t217 && (t216 == t218)) = false := by simpa using c17))
     (try (have c17b3 : ¬ (t215 = t217 && (t216 == t218)) := by simpa using c17))
     clear c17
     exact absurd ((Option.some.inj H).trans hr) (by decide)
   ·rw [if_neg c14] at H
    have c14b0 : (t213 == t214) = false := beq_eq_false_iff_ne.mpr c14
    have c14b1 : (t213 != t214) = true := bne_iff_ne.mpr c14
    exact absurd ((Option.some.inj H).trans hr) (by decide)
end Go.Proofs.YtokfgajfkopelaaDoor.BP
namespace Go.Proofs.YtokfgajfkopelaaDoor.Mine
open Go.RowKit Go.Proofs.YtokfgajfkopelaaDoorW.PrintWords Go.Proofs.YtokfgajfkopelaaDoorW.PrintLast Go.Proofs.YtokfgajfkopelaaDoorW.PrintMore
set_option linter.unusedVariables false
set_option linter.unusedSimpArgs false
theorem sameP_f (a n b m x : Int) (a0 : 0 ≤ a) (a1 : a < 4294967296) (b0 : 0 ≤ b) (b1 : b < 4294967296) (x0 : 0 ≤ x) (x1 : x < 4294967296) : BP.signpostlaw1_sameP.f a n b m x = some true := by
  unfold BP.signpostlaw1_sameP.f
  rw [if_pos ⟨⟨a0, a1⟩, ⟨b0, b1⟩, x0, x1⟩]
theorem readP_f (s : ByteArray) (h : s.size < 1000) : BP.signpostlaw1_readP.f s = some true := by
  unfold BP.signpostlaw1_readP.f
  rw [if_pos h]
theorem tells_j0 (k : Nat) (hk : 100 ≤ k) (a b n m : Int) (s : ByteArray) (a0 : 0 ≤ a) (a1 : a < 4294967296) (b0 : 0 ≤ b) (b1 : b < 4294967296) (n0 : -9223372036854775808 ≤ n) (n1 : n ≤ 9223372036854775807) (m0 : -9223372036854775808 ≤ m) (m1 : m ≤ 9223372036854775807) (hs : s.size < 1000) :
    BP.signpostlaw1_AddrTells.j0 (k + 1) a b n m s = some true := by
  obtain ⟨p, x, hp, hx, p0, p1, x0, x1, P⟩ := any_is a n a0 a1
  obtain ⟨q, y, hq, hy, q0, q1, y0, y1, Q⟩ := any_is b m b0 b1
  obtain ⟨u, v, hu, hv, u0, u1, v0, v1, U⟩ := any_is a m a0 a1
  rw [BP.signpostlaw1_AddrTells.j0, any_f k (by omega) a n a0 a1 n0 n1, Option.bind_some, any_f k (by omega) b m b0 b1 m0 m1, Option.bind_some, mask_f n n1, Option.bind_some, refMask_f k (by omega) n n1, Option.bind_some, if_pos rfl, of_f a n a0 a1 n1, Option.bind_some, refOf_f k (by omega) a n a0 a1, Option.bind_some, if_pos (by simp)]
  rw [hp, hx, hq, hy]
  rw [sameP_f _ _ _ _ _ p0 p1 q0 q1 b0 b1, Option.bind_some, if_pos rfl, sameP_f _ _ _ _ _ a0 a1 q0 q1 b0 b1, Option.bind_some, if_pos rfl, any_f k (by omega) a m a0 a1 m0 m1, Option.bind_some, hu, hv, sameP_f _ _ _ _ _ p0 p1 u0 u1 b0 b1, Option.bind_some, if_pos rfl, readP_f s hs, Option.bind_some, if_pos rfl]
  unfold BP.signpostref1_TextP.f
  rw [if_pos ⟨p0, p1⟩, Option.bind_some, readP_f _ (by show (textP p x).size < 1000; have := text_size p x p0 p1; omega), Option.bind_some, if_pos rfl, known_f, Option.bind_some]
theorem AddrTells_plain (k : Nat) (hk : 200 ≤ k) (a b n m : Int) (s : ByteArray) (a0 : 0 ≤ a) (a1 : a < 4294967296) (b0 : 0 ≤ b) (b1 : b < 4294967296) (n0 : -9223372036854775808 ≤ n) (n1 : n ≤ 9223372036854775807) (m0 : -9223372036854775808 ≤ m) (m1 : m ≤ 9223372036854775807) (hs : s.size < 9223372036854775808) :
    BP.signpostlaw1_AddrTells.f k a b n m s = some true := by
  obtain ⟨k, rfl⟩ : ∃ j, k = j + 1 := ⟨k - 1, by omega⟩
  unfold BP.signpostlaw1_AddrTells.f
  by_cases hl : (s.size : Int) > 60
  · rw [if_pos hl, if_pos (by decide), if_pos (by omega)]
    exact tells_j0 k (by omega) a b n m _ a0 a1 b0 b1 n0 n1 m0 m1 (by rw [ByteArray.size_extract]; omega)
  · rw [if_neg hl]
    exact tells_j0 k (by omega) a b n m s a0 a1 b0 b1 n0 n1 m0 m1 (by omega)
theorem AddrTells_row (a0 a1 a2 a3 : Int) (a4 : ByteArray) (w0 : (Lit.int .u32 a0).wf = true) (w1 : (Lit.int .u32 a1).wf = true) (w2 : (Lit.int .i64 a2).wf = true) (w3 : (Lit.int .i64 a3).wf = true) (w4 : a4.size ≤ 140737488351232) (w : World) (henv : Env w) : Calls Tryd.prog 9 #[.int .u32 a0, .int .u32 a1, .int .i64 a2, .int .i64 a3, .string a4] w fun e w' => e = .returned (.bool true) ∧ Below w.heap.size w w' :=
  BP.signpostlaw1_AddrTells.calls 200 a0 a1 a2 a3 a4 true rfl w henv (AddrTells_plain 200 (Nat.le_refl _) a0 a1 a2 a3 a4 (wf_u32 w0).1 (wf_u32 w0).2 (wf_u32 w1).1 (wf_u32 w1).2 (wf_i64 w2).1 (wf_i64 w2).2 (wf_i64 w3).1 (wf_i64 w3).2 (by omega))
end Go.Proofs.YtokfgajfkopelaaDoor.Mine
namespace Go.Proofs.YtokfgajfkopelaaDoor.BP
open Go.Proofs.YtokfgajfkopelaaDoor.Mine
open Go.RowKit Go.Proofs.YtokfgajfkopelaaDoorW.PrintWords Go.Proofs.YtokfgajfkopelaaDoorW.PrintLast Go.Proofs.YtokfgajfkopelaaDoorW.PrintMore
attribute [local go_sem] max2_int min2_int max_two min_two max_three min_three max_four min_four
set_option linter.unusedVariables false
set_option linter.unusedSimpArgs false
attribute [local go_sem high] eqA24
mutual
def signpostlaw1_AddrNumbers.l0 : Nat → Int → Option (Bool)
 | 0, _ => none
 | k + 1, x1 => if x1 < 35 then ((some (([0, 2147483648, 167838211, 4294967295, 2147483647] : List Int) : List Int)).bind fun y203 => (signpostlaw1_AddrNumbers.l1 k x1 y203 (y203.length : Int) 0)) else ((some (([(⟨#[]⟩ : ByteArray), (⟨#[47]⟩ : ByteArray), (⟨#[48, 46, 48, 46, 48, 46, 48, 47, 48]⟩ : ByteArray), (⟨#[50, 53, 53, 46, 50, 53, 53, 46, 50, 53, 53, 46, 50, 53, 53, 47, 51, 50]⟩ : ByteArray), (⟨#[50, 53, 54, 46, 48, 46, 48, 46, 48, 47, 56]⟩ : ByteArray), (⟨#[49, 48, 46, 48, 46, 48, 46, 48]⟩ : ByteArray), (⟨#[49, 48, 46, 48, 46, 48, 46, 48, 47]⟩ : ByteArray), (⟨#[49, 48, 46, 48, 46, 48, 47, 56]⟩ : ByteArray), (⟨#[49, 48, 46, 48, 46, 48, 46, 48, 46, 48, 47, 56]⟩ : ByteArray), (⟨#[48, 49, 48, 46, 48, 46, 48, 46, 48, 47, 56]⟩ : ByteArray), (⟨#[49, 48, 46, 48, 46, 48, 46, 48, 47, 48, 56]⟩ : ByteArray), (⟨#[49, 48, 46, 48, 46, 48, 46, 48, 47, 51, 51]⟩ : ByteArray), (⟨#[49, 48, 46, 48, 46, 48, 46, 48, 47, 56, 32]⟩ : ByteArray), (⟨#[32, 49, 48, 46, 48, 46, 48, 46, 48, 47, 56]⟩ : ByteArray), (⟨#[45, 49, 46, 48, 46, 48, 46, 48, 47, 56]⟩ : ByteArray), (⟨#[97, 46, 48, 46, 48, 46, 48, 47, 56]⟩ : ByteArray), (⟨#[49, 48, 46, 48, 46, 48, 46, 48, 47, 56, 47, 56]⟩ : ByteArray), (⟨#[49, 48, 46, 46, 48, 46, 48, 47, 56]⟩ : ByteArray), (⟨#[49, 48, 48, 48, 46, 48, 46, 48, 46, 48, 47, 56]⟩ : ByteArray), (⟨#[49, 48, 46, 48, 46, 48, 46, 48, 47, 49, 48, 48]⟩ : ByteArray), (⟨#[49, 48, 46, 48, 46, 48, 46, 48, 33, 56]⟩ : ByteArray), (⟨#[49, 48, 46, 48, 46, 48, 46, 48, 47, 56, 33]⟩ : ByteArray), (⟨#[49, 48, 47, 48, 46, 48, 46, 48, 46, 56]⟩ : ByteArray), (⟨#[255]⟩ : ByteArray)] : List ByteArray) : List ByteArray)).bind fun y225 => (signpostlaw1_AddrNumbers.l2 k y225 (y225.length : Int) 0))
def signpostlaw1_AddrNumbers.l1 : Nat → Int → List Int → Int → Int → Option (Bool)
 | 0, _, _, _, _ => none
 | k + 1, x1, x10, x11, x12 => if x12 < x11 then (if 0 ≤ x12 then (if x12 < (x10.length : Int) then ((addr_Mask.f x1).bind fun t207 => ((signpostref1_Mask.f k x1).bind fun t208 => (if t207 = t208 then ((addr_Of.f (rd x10 x12) x1).bind fun bt209 => ((signpostref1_Of.f k (rd x10 x12) x1).bind fun bt211 => (if (!(bt209.1 == bt211.1) || (!(bt209.2 == bt211.2))) = true then (some false) else ((signpostref1_Of.f k (rd x10 x12) 12).bind fun bt213 => ((signpostlaw1_sameP.f (rd x10 x12) x1 bt213.1 bt213.2 (rd x10 x12)).bind fun t215 => (if t215 = true then ((signpostref1_Of.f k (rd x10 x12) x1).bind fun bt216 => ((signpostref1_Of.f k 167838211 20).bind fun bt218 => ((signpostlaw1_sameP.f bt216.1 bt216.2 bt218.1 bt218.2 167838211).bind fun t220 => (if t220 = true then ((signpostref1_Of.f k (rd x10 x12) x1).bind fun bt221 => ((signpostref1_TextP.f bt221.1 bt221.2).bind fun t223 => ((signpostlaw1_readP.f t223).bind fun t224 => (if t224 = true then (signpostlaw1_AddrNumbers.l1 k x1 x10 x11 (wrap64 (x12 + 1))) else (some false))))) else (some false))))) else (some false))))))) else (some false)))) else (none)) else (none)) else (signpostlaw1_AddrNumbers.l0 k (wrap64 (x1 + 1)))
def signpostlaw1_AddrNumbers.l2 : Nat → List ByteArray → Int → Int → Option (Bool)
 | 0, _, _, _ => none
 | k + 1, x57, x58, x59 => if x59 < x58 then (if 0 ≤ x59 then (if x59 < (x57.length : Int) then ((signpostlaw1_readP.f (rdOf ByteArray.empty x57 x59)).bind fun t229 => (if t229 = true then (signpostlaw1_AddrNumbers.l2 k x57 x58 (wrap64 (x59 + 1))) else (some false))) else (none)) else (none)) else ((signpostlaw1_known.f).bind fun t230 => (some t230))
end
def signpostlaw1_AddrNumbers.f (k : Nat)  : Option (Bool) := signpostlaw1_AddrNumbers.l0 k (-1)
set_option maxHeartbeats 8000000 in
set_option maxRecDepth 100000 in
theorem signpostlaw1_AddrNumbers.calls (k : Nat)  (r : Bool) (hr : r = true) (w : World) (henv : Env w) (h : signpostlaw1_AddrNumbers.f k  = some r) :
 Calls Tryd.prog 8 #[] w fun e w' => e = .returned (.bool r) ∧ Below w.heap.size w w' := by
 have hu24 := Tryd.underlying24
 have HB := Aside0.mk (Below.refl w.heap.size w)
 have HENV := Aside0.mk henv
 clear henv
 have H : (signpostlaw1_AddrNumbers.l0 k (-1)) = some r := h
 clear h
 have H' := Aside0.mk H
 clear H
 go_enter Tryd.func8, Tryd.ntmps8
 go_wp2
 go_loopg [1] k (fun kq v1 w' => ∃ (x1_1 : Int), v1 = .int .i64 x1_1 ∧ Aside0 (signpostlaw1_AddrNumbers.l0 kq x1_1 = some r) ∧ Aside0 (kq ≤ k) ∧ Aside0 (Below w.heap.size w w'))
 case atStart => exact ⟨((-1)), (by first | rfl | (simp; done) | (simp [*]; done)), H', ⟨Nat.le_refl _⟩, ⟨by repeat (first | (with_reducible first | exact HB.out | apply below_alloc | apply pw_below_drewN | apply below_drew1) | exact HB.out)⟩⟩
 case round =>
  clear H'
  obtain ⟨x1_1, rfl, HA, HK1, HB⟩ := hrel
  cases gk with
  | zero => exact absurd HA.out (by simp [signpostlaw1_AddrNumbers.l0])
  | succ k1 =>
   have H := HA.out
   clear HA
   simp only [signpostlaw1_AddrNumbers.l0] at H
   by_cases c1 : x1_1 < 35
   ·rw [if_pos c1] at H
    have c1b0 : decide (x1_1 < 35) = true := decide_eq_true c1
    clear c1
    obtain ⟨y203, hy203⟩ : ∃ y_ : List Int, y_ = (([0, 2147483648, 167838211, 4294967295, 2147483647] : List Int)) := ⟨_, rfl⟩
    replace H : (signpostlaw1_AddrNumbers.l1 k1 x1_1 y203 (y203.length : Int) 0) = some r := by first | (rw [hy203]; with_reducible exact H) | (have H2_ := (Option.bind_some _ _).symm.trans H; rw [hy203]; with_reducible exact H2_) | (have H2_ := (Option.bind_some _ _).symm.trans H; with_reducible exact H2_) | with_reducible exact H | (rw [hy203]; exact H) | exact H
    have Ny203 := Aside0.mk hy203
    clear hy203
    have H' := Aside0.mk H
    clear H
    go_wp2_with (first | ((with_reducible refine gate_dst (N := 10) rfl ?_); refine Kd.R_lit (Kd.int .u32) _ 22 ?hg (N := 10) ?hd (xs := ([0, 2147483648, 167838211, 4294967295, 2147483647] : List Int)) (inner := [.int .u32 0, .int .u32 2147483648, .int .u32 167838211, .int .u32 4294967295, .int .u32 2147483647]) (ok := fun _ => True) (okp := fun _ => True) ?hr ?hp (fun _ hk => hk) trivial (Below.refl _ _) (Nat.le_refl _) (by simp) ?_; (case hd => rfl); (case hg => rfl); (case hr => first | (go_simp; done) | (go_simp; rfl)); (case hp => exact (Reps.one (show Kd.M (Kd.int .u32) _ _ _ 0 [.int .u32 0] from rfl) (Reps.one (show Kd.M (Kd.int .u32) _ _ _ 2147483648 [.int .u32 2147483648] from rfl) (Reps.one (show Kd.M (Kd.int .u32) _ _ _ 167838211 [.int .u32 167838211] from rfl) (Reps.one (show Kd.M (Kd.int .u32) _ _ _ 4294967295 [.int .u32 4294967295] from rfl) (Reps.one (show Kd.M (Kd.int .u32) _ _ _ 2147483647 [.int .u32 2147483647] from rfl) (Reps.none _ _))))))); intro v204 w2 ho3 hb hg_ hnew_; clear hg_ hnew_; (first | rw [← Ny203.out] at ho3 | (simp only [Int.reduceToNat] at ho3; rw [← Ny203.out] at ho3)); have n0_ := Aside0.mk (Kd.R_lower ho3 (below_size (by repeat (first | (with_reducible first | exact HB.out | apply below_alloc | apply pw_below_drewN | apply below_drew1) | exact HB.out)))); have n1_ := Aside0.mk (below_step (by repeat (first | (with_reducible first | exact HB.out | apply below_alloc | apply pw_below_drewN | apply below_drew1) | exact HB.out)) hb); clear HB; have HO205 := n0_; have HB := n1_; clear n0_ n1_; clear hb ho3; obtain ⟨Ao4, co4, eo4⟩ := Kd.R_slice HO205.out; subst eo4))
    go_loopg [12] k1 (fun kq v12 w' => ∃ (x12_2 : Int), v12 = .int .i64 x12_2 ∧ Aside0 (signpostlaw1_AddrNumbers.l1 kq x1_1 y203 (y203.length : Int) x12_2 = some r) ∧ Aside0 (kq ≤ k1) ∧ Aside0 (Kd.R (Kd.int .u32) 22 w' w.heap.size (fun _ => True) (.slice Ao4 y203.length co4) y203) ∧ Aside0 (Below w.heap.size w w'))
    case atStart => exact ⟨(0), (by first | rfl | (simp; done) | (simp [*]; done)), H', ⟨Nat.le_refl _⟩, ⟨by (with_reducible repeat (first | apply Kd.R_alloc | apply Kd.R_drewN | apply Kd.R_drew)); exact HO205.out⟩, ⟨by repeat (first | (with_reducible first | exact HB.out | apply below_alloc | apply pw_below_drewN | apply below_drew1) | exact HB.out)⟩⟩
    case round =>
     clear H'
     try clear c1
     try clear c1b0
     try clear p2
     obtain ⟨x12_2, rfl, HA, HK2, HO_10, HB⟩ := hrel
     cases gk with
     | zero => exact absurd HA.out (by simp [signpostlaw1_AddrNumbers.l1])
     | succ k2 =>
      have H := HA.out
      clear HA
      simp only [signpostlaw1_AddrNumbers.l1] at H
      by_cases c5 : x12_2 < (y203.length : Int)
      ·rw [if_pos c5] at H
       have c5b0 : decide (x12_2 < (y203.length : Int)) = true := decide_eq_true c5
       clear c5
       by_cases c6 : 0 ≤ x12_2
       ·rw [if_pos c6] at H
        have c6b0 : decide (0 ≤ x12_2) = true := decide_eq_true c6
        clear c6
        by_cases c7 : x12_2 < (y203.length : Int)
        ·rw [if_pos c7] at H
         have c7b0 : decide (x12_2 < (y203.length : Int)) = true := decide_eq_true c7
         clear c7
         replace H := Option.bind_eq_some_iff.mp H
         obtain ⟨t207, A80, H⟩ := H
         replace H : ((signpostref1_Mask.f k2 x1_1).bind fun t208 => (if t207 = t208 then ((addr_Of.f (rd y203 x12_2) x1_1).bind fun bt209 => ((signpostref1_Of.f k2 (rd y203 x12_2) x1_1).bind fun bt211 => (if (!(bt209.1 == bt211.1) || (!(bt209.2 == bt211.2))) = true then (some false) else ((signpostref1_Of.f k2 (rd y203 x12_2) 12).bind fun bt213 => ((signpostlaw1_sameP.f (rd y203 x12_2) x1_1 bt213.1 bt213.2 (rd y203 x12_2)).bind fun t215 => (if t215 = true then ((signpostref1_Of.f k2 (rd y203 x12_2) x1_1).bind fun bt216 => ((signpostref1_Of.f k2 167838211 20).bind fun bt218 => ((signpostlaw1_sameP.f bt216.1 bt216.2 bt218.1 bt218.2 167838211).bind fun t220 => (if t220 = true then ((signpostref1_Of.f k2 (rd y203 x12_2) x1_1).bind fun bt221 => ((signpostref1_TextP.f bt221.1 bt221.2).bind fun t223 => ((signpostlaw1_readP.f t223).bind fun t224 => (if t224 = true then (signpostlaw1_AddrNumbers.l1 k2 x1_1 y203 (y203.length : Int) (wrap64 (x12_2 + 1))) else (some false))))) else (some false))))) else (some false))))))) else (some false))) = some r := H
         have A8 := Aside0.mk A80
         clear A80
         replace H := Option.bind_eq_some_iff.mp H
         obtain ⟨t208, A90, H⟩ := H
         replace H : (if t207 = t208 then ((addr_Of.f (rd y203 x12_2) x1_1).bind fun bt209 => ((signpostref1_Of.f k2 (rd y203 x12_2) x1_1).bind fun bt211 => (if (!(bt209.1 == bt211.1) || (!(bt209.2 == bt211.2))) = true then (some false) else ((signpostref1_Of.f k2 (rd y203 x12_2) 12).bind fun bt213 => ((signpostlaw1_sameP.f (rd y203 x12_2) x1_1 bt213.1 bt213.2 (rd y203 x12_2)).bind fun t215 => (if t215 = true then ((signpostref1_Of.f k2 (rd y203 x12_2) x1_1).bind fun bt216 => ((signpostref1_Of.f k2 167838211 20).bind fun bt218 => ((signpostlaw1_sameP.f bt216.1 bt216.2 bt218.1 bt218.2 167838211).bind fun t220 => (if t220 = true then ((signpostref1_Of.f k2 (rd y203 x12_2) x1_1).bind fun bt221 => ((signpostref1_TextP.f bt221.1 bt221.2).bind fun t223 => ((signpostlaw1_readP.f t223).bind fun t224 => (if t224 = true then (signpostlaw1_AddrNumbers.l1 k2 x1_1 y203 (y203.length : Int) (wrap64 (x12_2 + 1))) else (some false))))) else (some false))))) else (some false))))))) else (some false)) = some r := H
         have A9 := Aside0.mk A90
         clear A90
         by_cases c10 : t207 = t208
         ·rw [if_pos c10] at H
          have c10b0 : (t207 == t208) = true := beq_iff_eq.mpr c10
          have c10b1 : (t207 != t208) = false := bne_eq_false_iff_eq.mpr c10
          clear c10
          replace H := Option.bind_eq_some_iff.mp H
          obtain ⟨⟨t209, t210⟩, A110, H⟩ := H
          replace H : ((signpostref1_Of.f k2 (rd y203 x12_2) x1_1).bind fun bt211 => (if (!(t209 == bt211.1) || (!(t210 == bt211.2))) = true then (some false) else ((signpostref1_Of.f k2 (rd y203 x12_2) 12).bind fun bt213 => ((signpostlaw1_sameP.f (rd y203 x12_2) x1_1 bt213.1 bt213.2 (rd y203 x12_2)).bind fun t215 => (if t215 = true then ((signpostref1_Of.f k2 (rd y203 x12_2) x1_1).bind fun bt216 => ((signpostref1_Of.f k2 167838211 20).bind fun bt218 => ((signpostlaw1_sameP.f bt216.1 bt216.2 bt218.1 bt218.2 167838211).bind fun t220 => (if t220 = true then ((signpostref1_Of.f k2 (rd y203 x12_2) x1_1).bind fun bt221 => ((signpostref1_TextP.f bt221.1 bt221.2).bind fun t223 => ((signpostlaw1_readP.f t223).bind fun t224 => (if t224 = true then (signpostlaw1_AddrNumbers.l1 k2 x1_1 y203 (y203.length : Int) (wrap64 (x12_2 + 1))) else (some false))))) else (some false))))) else (some false)))))) = some r := H
          have A11 := Aside0.mk A110
          clear A110
          replace H := Option.bind_eq_some_iff.mp H
          obtain ⟨⟨t211, t212⟩, A120, H⟩ := H
          replace H : (if (!(t209 == t211) || (!(t210 == t212))) = true then (some false) else ((signpostref1_Of.f k2 (rd y203 x12_2) 12).bind fun bt213 => ((signpostlaw1_sameP.f (rd y203 x12_2) x1_1 bt213.1 bt213.2 (rd y203 x12_2)).bind fun t215 => (if t215 = true then ((signpostref1_Of.f k2 (rd y203 x12_2) x1_1).bind fun bt216 => ((signpostref1_Of.f k2 167838211 20).bind fun bt218 => ((signpostlaw1_sameP.f bt216.1 bt216.2 bt218.1 bt218.2 167838211).bind fun t220 => (if t220 = true then ((signpostref1_Of.f k2 (rd y203 x12_2) x1_1).bind fun bt221 => ((signpostref1_TextP.f bt221.1 bt221.2).bind fun t223 => ((signpostlaw1_readP.f t223).bind fun t224 => (if t224 = true then (signpostlaw1_AddrNumbers.l1 k2 x1_1 y203 (y203.length : Int) (wrap64 (x12_2 + 1))) else (some false))))) else (some false))))) else (some false))))) = some r := H
          have A12 := Aside0.mk A120
          clear A120
          by_cases c13 : (!(t209 == t211) || (!(t210 == t212))) = true
          ·rw [if_pos c13] at H
           have c13b0 : (!(t209 == t211) || (!(t210 == t212))) = true := c13
           clear c13
           exact absurd ((Option.some.inj H).trans hr) (by decide)
          ·rw [if_neg c13] at H
           have c13b0 : (!(t209 == t211) || (!(t210 == t212))) = false := by simpa using c13
           clear c13
           replace H := Option.bind_eq_some_iff.mp H
           obtain ⟨⟨t213, t214⟩, A170, H⟩ := H
           replace H : ((signpostlaw1_sameP.f (rd y203 x12_2) x1_1 t213 t214 (rd y203 x12_2)).bind fun t215 => (if t215 = true then ((signpostref1_Of.f k2 (rd y203 x12_2) x1_1).bind fun bt216 => ((signpostref1_Of.f k2 167838211 20).bind fun bt218 => ((signpostlaw1_sameP.f bt216.1 bt216.2 bt218.1 bt218.2 167838211).bind fun t220 => (if t220 = true then ((signpostref1_Of.f k2 (rd y203 x12_2) x1_1).bind fun bt221 => ((signpostref1_TextP.f bt221.1 bt221.2).bind fun t223 => ((signpostlaw1_readP.f t223).bind fun t224 => (if t224 = true then (signpostlaw1_AddrNumbers.l1 k2 x1_1 y203 (y203.length : Int) (wrap64 (x12_2 + 1))) else (some false))))) else (some false))))) else (some false))) = some r := H
           have A17 := Aside0.mk A170
           clear A170
           replace H := Option.bind_eq_some_iff.mp H
           obtain ⟨t215, A180, H⟩ := H
           replace H : (if t215 = true then ((signpostref1_Of.f k2 (rd y203 x12_2) x1_1).bind fun bt216 => ((signpostref1_Of.f k2 167838211 20).bind fun bt218 => ((signpostlaw1_sameP.f bt216.1 bt216.2 bt218.1 bt218.2 167838211).bind fun t220 => (if t220 = true then ((signpostref1_Of.f k2 (rd y203 x12_2) x1_1).bind fun bt221 => ((signpostref1_TextP.f bt221.1 bt221.2).bind fun t223 => ((signpostlaw1_readP.f t223).bind fun t224 => (if t224 = true then (signpostlaw1_AddrNumbers.l1 k2 x1_1 y203 (y203.length : Int) (wrap64 (x12_2 + 1))) else (some false))))) else (some false))))) else (some false)) = some r := H
           have A18 := Aside0.mk A180
           clear A180
           by_cases c19 : t215 = true
           ·subst c19
            have H1 : ((signpostref1_Of.f k2 (rd y203 x12_2) x1_1).bind fun bt216 => ((signpostref1_Of.f k2 167838211 20).bind fun bt218 => ((signpostlaw1_sameP.f bt216.1 bt216.2 bt218.1 bt218.2 167838211).bind fun t220 => (if t220 = true then ((signpostref1_Of.f k2 (rd y203 x12_2) x1_1).bind fun bt221 => ((signpostref1_TextP.f bt221.1 bt221.2).bind fun t223 => ((signpostlaw1_readP.f t223).bind fun t224 => (if t224 = true then (signpostlaw1_AddrNumbers.l1 k2 x1_1 y203 (y203.length : Int) (wrap64 (x12_2 + 1))) else (some false))))) else (some false))))) = some r := by rw [if_pos rfl] at H; exact H
            clear H
            have H := H1
            clear H1
            replace H := Option.bind_eq_some_iff.mp H
            obtain ⟨⟨t216, t217⟩, A200, H⟩ := H
            have e_ := A12.out.symm.trans A200
            simp only [Option.some.injEq, Prod.mk.injEq] at e_
            obtain ⟨h0_, h1_⟩ := e_
            subst h0_
            subst h1_
            replace H : ((signpostref1_Of.f k2 167838211 20).bind fun bt218 => ((signpostlaw1_sameP.f t211 t212 bt218.1 bt218.2 167838211).bind fun t220 => (if t220 = true then ((signpostref1_Of.f k2 (rd y203 x12_2) x1_1).bind fun bt221 => ((signpostref1_TextP.f bt221.1 bt221.2).bind fun t223 => ((signpostlaw1_readP.f t223).bind fun t224 => (if t224 = true then (signpostlaw1_AddrNumbers.l1 k2 x1_1 y203 (y203.length : Int) (wrap64 (x12_2 + 1))) else (some false))))) else (some false)))) = some r := H
            have A20 := Aside0.mk A200
            clear A200
            replace H := Option.bind_eq_some_iff.mp H
            obtain ⟨⟨t218, t219⟩, A210, H⟩ := H
            replace H : ((signpostlaw1_sameP.f t211 t212 t218 t219 167838211).bind fun t220 => (if t220 = true then ((signpostref1_Of.f k2 (rd y203 x12_2) x1_1).bind fun bt221 => ((signpostref1_TextP.f bt221.1 bt221.2).bind fun t223 => ((signpostlaw1_readP.f t223).bind fun t224 => (if t224 = true then (signpostlaw1_AddrNumbers.l1 k2 x1_1 y203 (y203.length : Int) (wrap64 (x12_2 + 1))) else (some false))))) else (some false))) = some r := H
            have A21 := Aside0.mk A210
            clear A210
            replace H := Option.bind_eq_some_iff.mp H
            obtain ⟨t220, A220, H⟩ := H
            replace H : (if t220 = true then ((signpostref1_Of.f k2 (rd y203 x12_2) x1_1).bind fun bt221 => ((signpostref1_TextP.f bt221.1 bt221.2).bind fun t223 => ((signpostlaw1_readP.f t223).bind fun t224 => (if t224 = true then (signpostlaw1_AddrNumbers.l1 k2 x1_1 y203 (y203.length : Int) (wrap64 (x12_2 + 1))) else (some false))))) else (some false)) = some r := H
            have A22 := Aside0.mk A220
            clear A220
            by_cases c23 : t220 = true
            ·subst c23
             have H1 : ((signpostref1_Of.f k2 (rd y203 x12_2) x1_1).bind fun bt221 => ((signpostref1_TextP.f bt221.1 bt221.2).bind fun t223 => ((signpostlaw1_readP.f t223).bind fun t224 => (if t224 = true then (signpostlaw1_AddrNumbers.l1 k2 x1_1 y203 (y203.length : Int) (wrap64 (x12_2 + 1))) else (some false))))) = some r := by rw [if_pos rfl] at H; exact H
             clear H
             have H := H1
             clear H1
             replace H := Option.bind_eq_some_iff.mp H
             obtain ⟨⟨t221, t222⟩, A240, H⟩ := H
             have e_ := A12.out.symm.trans A240
             simp only [Option.some.injEq, Prod.mk.injEq] at e_
             obtain ⟨h0_, h1_⟩ := e_
             subst h0_
             subst h1_
             replace H : ((signpostref1_TextP.f t211 t212).bind fun t223 => ((signpostlaw1_readP.f t223).bind fun t224 => (if t224 = true then (signpostlaw1_AddrNumbers.l1 k2 x1_1 y203 (y203.length : Int) (wrap64 (x12_2 + 1))) else (some false)))) = some r := H
             have A24 := Aside0.mk A240
             clear A240
             replace H := Option.bind_eq_some_iff.mp H
             obtain ⟨t223, A250, H⟩ := H
             replace H : ((signpostlaw1_readP.f t223).bind fun t224 => (if t224 = true then (signpostlaw1_AddrNumbers.l1 k2 x1_1 y203 (y203.length : Int) (wrap64 (x12_2 + 1))) else (some false))) = some r := H
             have A25 := Aside0.mk A250
             clear A250
             replace H := Option.bind_eq_some_iff.mp H
             obtain ⟨t224, A260, H⟩ := H
             replace H : (if t224 = true then (signpostlaw1_AddrNumbers.l1 k2 x1_1 y203 (y203.length : Int) (wrap64 (x12_2 + 1))) else (some false)) = some r := H
             have A26 := Aside0.mk A260
             clear A260
             by_cases c27 : t224 = true
             ·subst c27
              have H1 : (signpostlaw1_AddrNumbers.l1 k2 x1_1 y203 (y203.length : Int) (wrap64 (x12_2 + 1))) = some r := by rw [if_pos rfl] at H; exact H
              clear H
              have H := H1
              clear H1
              have H' := Aside0.mk H
              clear H
              have p206 : 0 ≤ (x12_2 : Int) := of_decide_eq_true (by first | (with_reducible assumption) | assumption)
              have q206 : x12_2 < (y203.length : Int) := of_decide_eq_true (by first | (with_reducible assumption) | assumption)
              obtain ⟨ad206, e206, hx206_0⟩ := Kd.at_int (Kd.R_reads' HO_10.out).2.2 x12_2 p206 q206
              cases e206
              replace p206 := eq_true p206
              replace q206 := eq_true q206
              go_wp2_with (first | ((with_reducible refine gate_callee (f := 16) rfl ?_); refine goesL_ (some 17) rfl rfl Tryd.func16 (by kernel_rfl) rfl #[.int .i64 x1_1] rfl (by (try simp only [List.map_toArray, List.map_cons, List.map_nil]); first | done | rfl | (simp only [List.length_drop, List.length_take]; rfl)) ?_; (with_reducible refine (addr_Mask.calls x1_1 t207 _ A8.out).mono ?_); rintro e w28 ⟨rfl, hb⟩; refine ⟨_, rfl, ?_⟩; have n0_ := Aside0.mk (Kd.R_below (by (with_reducible repeat (first | apply Kd.R_alloc | apply Kd.R_drewN | apply Kd.R_drew)); exact HO_10.out) hb); have n1_ := Aside0.mk (below_step (by repeat (first | (with_reducible first | exact HB.out | apply below_alloc | apply pw_below_drewN | apply below_drew1) | exact HB.out)) hb); clear HO_10; clear HB; have HO_10 := n0_; have HB := n1_; clear n0_ n1_; (try clear hb); (try clear hb2); (try clear hk); (try clear hi)) | ((with_reducible refine gate_callee (f := 24) rfl ?_); refine goesL_ (some 19) rfl rfl Tryd.func24 (by kernel_rfl) rfl #[.int .i64 x1_1] rfl (by (try simp only [List.map_toArray, List.map_cons, List.map_nil]); first | done | rfl | (simp only [List.length_drop, List.length_take]; rfl)) ?_; (with_reducible refine (signpostref1_Mask.calls k2 x1_1 t208 _ A9.out).mono ?_); rintro e w' ⟨rfl, ⟨nd, rfl⟩⟩; refine ⟨_, rfl, ?_⟩) | (go_at_call 22; (with_reducible refine (addr_Of.calls (rd y203 x12_2) x1_1 t209 t210 _ A11.out).mono ?_); rintro e w29 ⟨rfl, hb⟩; have n0_ := Aside0.mk (Kd.R_below (by (with_reducible repeat (first | apply Kd.R_alloc | apply Kd.R_drewN | apply Kd.R_drew)); exact HO_10.out) hb); have n1_ := Aside0.mk (below_step (by repeat (first | (with_reducible first | exact HB.out | apply below_alloc | apply pw_below_drewN | apply below_drew1) | exact HB.out)) hb); clear HO_10; clear HB; have HO_10 := n0_; have HB := n1_; clear n0_ n1_; (try clear hb); (try clear hb2); (try clear hk); (try clear hi)) | (go_at_call 25; (with_reducible refine (signpostref1_Of.calls k2 (rd y203 x12_2) x1_1 t211 t212 _ A12.out).mono ?_); rintro e w30 ⟨rfl, hb⟩; have n0_ := Aside0.mk (Kd.R_below (by (with_reducible repeat (first | apply Kd.R_alloc | apply Kd.R_drewN | apply Kd.R_drew)); exact HO_10.out) hb); have n1_ := Aside0.mk (below_step (by repeat (first | (with_reducible first | exact HB.out | apply below_alloc | apply pw_below_drewN | apply below_drew1) | exact HB.out)) hb); clear HO_10; clear HB; have HO_10 := n0_; have HB := n1_; clear n0_ n1_; (try clear hb); (try clear hb2); (try clear hk); (try clear hi)) | (go_at_call 25; (with_reducible refine (signpostref1_Of.calls k2 (rd y203 x12_2) 12 t213 t214 _ A17.out).mono ?_); rintro e w31 ⟨rfl, hb⟩; have n0_ := Aside0.mk (Kd.R_below (by (with_reducible repeat (first | apply Kd.R_alloc | apply Kd.R_drewN | apply Kd.R_drew)); exact HO_10.out) hb); have n1_ := Aside0.mk (below_step (by repeat (first | (with_reducible first | exact HB.out | apply below_alloc | apply pw_below_drewN | apply below_drew1) | exact HB.out)) hb); clear HO_10; clear HB; have HO_10 := n0_; have HB := n1_; clear n0_ n1_; (try clear hb); (try clear hb2); (try clear hk); (try clear hi)) | (go_at_call 26; (with_reducible refine (signpostlaw1_sameP.calls (rd y203 x12_2) x1_1 t213 t214 (rd y203 x12_2) true _ (HENV.out.below (by repeat (first | (with_reducible first | exact HB.out | apply below_alloc | apply pw_below_drewN | apply below_drew1) | exact HB.out))) A18.out).mono ?_); rintro e w32 ⟨rfl, hb⟩; have n0_ := Aside0.mk (Kd.R_below (by (with_reducible repeat (first | apply Kd.R_alloc | apply Kd.R_drewN | apply Kd.R_drew)); exact HO_10.out) hb); have n1_ := Aside0.mk (below_step (by repeat (first | (with_reducible first | exact HB.out | apply below_alloc | apply pw_below_drewN | apply below_drew1) | exact HB.out)) hb); clear HO_10; clear HB; have HO_10 := n0_; have HB := n1_; clear n0_ n1_; (try clear hb); (try clear hb2); (try clear hk); (try clear hi)) | (go_at_call 25; (with_reducible refine (signpostref1_Of.calls k2 (rd y203 x12_2) x1_1 t211 t212 _ A20.out).mono ?_); rintro e w33 ⟨rfl, hb⟩; have n0_ := Aside0.mk (Kd.R_below (by (with_reducible repeat (first | apply Kd.R_alloc | apply Kd.R_drewN | apply Kd.R_drew)); exact HO_10.out) hb); have n1_ := Aside0.mk (below_step (by repeat (first | (with_reducible first | exact HB.out | apply below_alloc | apply pw_below_drewN | apply below_drew1) | exact HB.out)) hb); clear HO_10; clear HB; have HO_10 := n0_; have HB := n1_; clear n0_ n1_; (try clear hb); (try clear hb2); (try clear hk); (try clear hi)) | (go_at_call 25; (with_reducible refine (signpostref1_Of.calls k2 167838211 20 t218 t219 _ A21.out).mono ?_); rintro e w34 ⟨rfl, hb⟩; have n0_ := Aside0.mk (Kd.R_below (by (with_reducible repeat (first | apply Kd.R_alloc | apply Kd.R_drewN | apply Kd.R_drew)); exact HO_10.out) hb); have n1_ := Aside0.mk (below_step (by repeat (first | (with_reducible first | exact HB.out | apply below_alloc | apply pw_below_drewN | apply below_drew1) | exact HB.out)) hb); clear HO_10; clear HB; have HO_10 := n0_; have HB := n1_; clear n0_ n1_; (try clear hb); (try clear hb2); (try clear hk); (try clear hi)) | (go_at_call 26; (with_reducible refine (signpostlaw1_sameP.calls t211 t212 t218 t219 167838211 true _ (HENV.out.below (by repeat (first | (with_reducible first | exact HB.out | apply below_alloc | apply pw_below_drewN | apply below_drew1) | exact HB.out))) A22.out).mono ?_); rintro e w35 ⟨rfl, hb⟩; have n0_ := Aside0.mk (Kd.R_below (by (with_reducible repeat (first | apply Kd.R_alloc | apply Kd.R_drewN | apply Kd.R_drew)); exact HO_10.out) hb); have n1_ := Aside0.mk (below_step (by repeat (first | (with_reducible first | exact HB.out | apply below_alloc | apply pw_below_drewN | apply below_drew1) | exact HB.out)) hb); clear HO_10; clear HB; have HO_10 := n0_; have HB := n1_; clear n0_ n1_; (try clear hb); (try clear hb2); (try clear hk); (try clear hi)) | (go_at_call 25; (with_reducible refine (signpostref1_Of.calls k2 (rd y203 x12_2) x1_1 t211 t212 _ A24.out).mono ?_); rintro e w36 ⟨rfl, hb⟩; have n0_ := Aside0.mk (Kd.R_below (by (with_reducible repeat (first | apply Kd.R_alloc | apply Kd.R_drewN | apply Kd.R_drew)); exact HO_10.out) hb); have n1_ := Aside0.mk (below_step (by repeat (first | (with_reducible first | exact HB.out | apply below_alloc | apply pw_below_drewN | apply below_drew1) | exact HB.out)) hb); clear HO_10; clear HB; have HO_10 := n0_; have HB := n1_; clear n0_ n1_; (try clear hb); (try clear hb2); (try clear hk); (try clear hi)) | (go_at_call 28; (with_reducible refine (signpostref1_TextP.calls t211 t212 t223 _ A25.out).mono ?_); rintro e w37 ⟨rfl, hb⟩; have n0_ := Aside0.mk (Kd.R_below (by (with_reducible repeat (first | apply Kd.R_alloc | apply Kd.R_drewN | apply Kd.R_drew)); exact HO_10.out) hb); have n1_ := Aside0.mk (below_step (by repeat (first | (with_reducible first | exact HB.out | apply below_alloc | apply pw_below_drewN | apply below_drew1) | exact HB.out)) hb); clear HO_10; clear HB; have HO_10 := n0_; have HB := n1_; clear n0_ n1_; (try clear hb); (try clear hb2); (try clear hk); (try clear hi)) | (go_at_call 27; (with_reducible refine (signpostlaw1_readP.calls t223 true _ (HENV.out.below (by repeat (first | (with_reducible first | exact HB.out | apply below_alloc | apply pw_below_drewN | apply below_drew1) | exact HB.out))) A26.out).mono ?_); rintro e w38 ⟨rfl, hb⟩; have n0_ := Aside0.mk (Kd.R_below (by (with_reducible repeat (first | apply Kd.R_alloc | apply Kd.R_drewN | apply Kd.R_drew)); exact HO_10.out) hb); have n1_ := Aside0.mk (below_step (by repeat (first | (with_reducible first | exact HB.out | apply below_alloc | apply pw_below_drewN | apply below_drew1) | exact HB.out)) hb); clear HO_10; clear HB; have HO_10 := n0_; have HB := n1_; clear n0_ n1_; (try clear hb); (try clear hb2); (try clear hk); (try clear hi)))
              go_roundg k2
              case measure => have := HK1.out; have := HK2.out; omega
              case rel => exact ⟨(wrap64 (x12_2 + 1)), (by first | rfl | (simp; done) | (simp [*]; done)), H', ⟨by have := HK1.out; have := HK2.out; omega⟩, ⟨by (with_reducible repeat (first | apply Kd.R_alloc | apply Kd.R_drewN | apply Kd.R_drew)); exact HO_10.out⟩, ⟨by repeat (first | (with_reducible first | exact HB.out | apply below_alloc | apply pw_below_drewN | apply below_drew1) | exact HB.out)⟩⟩
             ·replace c27 := Bool.eq_false_iff.mpr c27
              subst c27
              have H1 : (some false) = some r := by rw [if_neg (show ¬ (false = true) by decide)] at H; exact H
              clear H
              have H := H1
              clear H1
              exact absurd ((Option.some.inj H).trans hr) (by decide)
            ·replace c23 := Bool.eq_false_iff.mpr c23
             subst c23
             have H1 : (some false) = some r := by rw [if_neg (show ¬ (false = true) by decide)] at H; exact H
             clear H
             have H := H1
             clear H1
             exact absurd ((Option.some.inj H).trans hr) (by decide)
           ·replace c19 := Bool.eq_false_iff.mpr c19
            subst c19
            have H1 : (some false) = some r := by rw [if_neg (show ¬ (false = true) by decide)] at H; exact H
            clear H
            have H := H1
            clear H1
            exact absurd ((Option.some.inj H).trans hr) (by decide)
         ·rw [if_neg c10] at H
          have c10b0 : (t207 == t208) = false := beq_eq_false_iff_ne.mpr c10
          have c10b1 : (t207 != t208) = true := bne_iff_ne.mpr c10
          exact absurd ((Option.some.inj H).trans hr) (by decide)
        ·rw [if_neg c7] at H
         exact absurd H (by simp)
       ·rw [if_neg c6] at H
        exact absurd H (by simp)
      ·rw [if_neg c5] at H
       have c5b0 : decide (x12_2 < (y203.length : Int)) = false := decide_eq_false c5
       clear c5
       have H' := Aside0.mk H
       clear H
       go_wp2
       go_roundg k2
       case measure => have := HK1.out; have := HK2.out; omega
       case rel => exact ⟨(wrap64 (x1_1 + 1)), (by first | rfl | (simp; done) | (simp [*]; done)), H', ⟨by have := HK1.out; have := HK2.out; omega⟩, ⟨by repeat (first | (with_reducible first | exact HB.out | apply below_alloc | apply pw_below_drewN | apply below_drew1) | exact HB.out)⟩⟩
   ·rw [if_neg c1] at H
    have c1b0 : decide (x1_1 < 35) = false := decide_eq_false c1
    clear c1
    obtain ⟨y225, hy225⟩ : ∃ y_ : List ByteArray, y_ = (([(⟨#[]⟩ : ByteArray), (⟨#[47]⟩ : ByteArray), (⟨#[48, 46, 48, 46, 48, 46, 48, 47, 48]⟩ : ByteArray), (⟨#[50, 53, 53, 46, 50, 53, 53, 46, 50, 53, 53, 46, 50, 53, 53, 47, 51, 50]⟩ : ByteArray), (⟨#[50, 53, 54, 46, 48, 46, 48, 46, 48, 47, 56]⟩ : ByteArray), (⟨#[49, 48, 46, 48, 46, 48, 46, 48]⟩ : ByteArray), (⟨#[49, 48, 46, 48, 46, 48, 46, 48, 47]⟩ : ByteArray), (⟨#[49, 48, 46, 48, 46, 48, 47, 56]⟩ : ByteArray), (⟨#[49, 48, 46, 48, 46, 48, 46, 48, 46, 48, 47, 56]⟩ : ByteArray), (⟨#[48, 49, 48, 46, 48, 46, 48, 46, 48, 47, 56]⟩ : ByteArray), (⟨#[49, 48, 46, 48, 46, 48, 46, 48, 47, 48, 56]⟩ : ByteArray), (⟨#[49, 48, 46, 48, 46, 48, 46, 48, 47, 51, 51]⟩ : ByteArray), (⟨#[49, 48, 46, 48, 46, 48, 46, 48, 47, 56, 32]⟩ : ByteArray), (⟨#[32, 49, 48, 46, 48, 46, 48, 46, 48, 47, 56]⟩ : ByteArray), (⟨#[45, 49, 46, 48, 46, 48, 46, 48, 47, 56]⟩ : ByteArray), (⟨#[97, 46, 48, 46, 48, 46, 48, 47, 56]⟩ : ByteArray), (⟨#[49, 48, 46, 48, 46, 48, 46, 48, 47, 56, 47, 56]⟩ : ByteArray), (⟨#[49, 48, 46, 46, 48, 46, 48, 47, 56]⟩ : ByteArray), (⟨#[49, 48, 48, 48, 46, 48, 46, 48, 46, 48, 47, 56]⟩ : ByteArray), (⟨#[49, 48, 46, 48, 46, 48, 46, 48, 47, 49, 48, 48]⟩ : ByteArray), (⟨#[49, 48, 46, 48, 46, 48, 46, 48, 33, 56]⟩ : ByteArray), (⟨#[49, 48, 46, 48, 46, 48, 46, 48, 47, 56, 33]⟩ : ByteArray), (⟨#[49, 48, 47, 48, 46, 48, 46, 48, 46, 56]⟩ : ByteArray), (⟨#[255]⟩ : ByteArray)] : List ByteArray)) := ⟨_, rfl⟩
    replace H : (signpostlaw1_AddrNumbers.l2 k1 y225 (y225.length : Int) 0) = some r := by first | (rw [hy225]; with_reducible exact H) | (have H2_ := (Option.bind_some _ _).symm.trans H; rw [hy225]; with_reducible exact H2_) | (have H2_ := (Option.bind_some _ _).symm.trans H; with_reducible exact H2_) | with_reducible exact H | (rw [hy225]; exact H) | exact H
    have Ny225 := Aside0.mk hy225
    clear hy225
    have H' := Aside0.mk H
    clear H
    go_wp2_with (first | ((with_reducible refine gate_dst (N := 57) rfl ?_); refine Kd.R_lit Kd.string _ 9 ?hg (N := 57) ?hd (xs := ([(⟨#[]⟩ : ByteArray), (⟨#[47]⟩ : ByteArray), (⟨#[48, 46, 48, 46, 48, 46, 48, 47, 48]⟩ : ByteArray), (⟨#[50, 53, 53, 46, 50, 53, 53, 46, 50, 53, 53, 46, 50, 53, 53, 47, 51, 50]⟩ : ByteArray), (⟨#[50, 53, 54, 46, 48, 46, 48, 46, 48, 47, 56]⟩ : ByteArray), (⟨#[49, 48, 46, 48, 46, 48, 46, 48]⟩ : ByteArray), (⟨#[49, 48, 46, 48, 46, 48, 46, 48, 47]⟩ : ByteArray), (⟨#[49, 48, 46, 48, 46, 48, 47, 56]⟩ : ByteArray), (⟨#[49, 48, 46, 48, 46, 48, 46, 48, 46, 48, 47, 56]⟩ : ByteArray), (⟨#[48, 49, 48, 46, 48, 46, 48, 46, 48, 47, 56]⟩ : ByteArray), (⟨#[49, 48, 46, 48, 46, 48, 46, 48, 47, 48, 56]⟩ : ByteArray), (⟨#[49, 48, 46, 48, 46, 48, 46, 48, 47, 51, 51]⟩ : ByteArray), (⟨#[49, 48, 46, 48, 46, 48, 46, 48, 47, 56, 32]⟩ : ByteArray), (⟨#[32, 49, 48, 46, 48, 46, 48, 46, 48, 47, 56]⟩ : ByteArray), (⟨#[45, 49, 46, 48, 46, 48, 46, 48, 47, 56]⟩ : ByteArray), (⟨#[97, 46, 48, 46, 48, 46, 48, 47, 56]⟩ : ByteArray), (⟨#[49, 48, 46, 48, 46, 48, 46, 48, 47, 56, 47, 56]⟩ : ByteArray), (⟨#[49, 48, 46, 46, 48, 46, 48, 47, 56]⟩ : ByteArray), (⟨#[49, 48, 48, 48, 46, 48, 46, 48, 46, 48, 47, 56]⟩ : ByteArray), (⟨#[49, 48, 46, 48, 46, 48, 46, 48, 47, 49, 48, 48]⟩ : ByteArray), (⟨#[49, 48, 46, 48, 46, 48, 46, 48, 33, 56]⟩ : ByteArray), (⟨#[49, 48, 46, 48, 46, 48, 46, 48, 47, 56, 33]⟩ : ByteArray), (⟨#[49, 48, 47, 48, 46, 48, 46, 48, 46, 56]⟩ : ByteArray), (⟨#[255]⟩ : ByteArray)] : List ByteArray)) (inner := [.string (⟨#[]⟩ : ByteArray), .string (⟨#[47]⟩ : ByteArray), .string (⟨#[48, 46, 48, 46, 48, 46, 48, 47, 48]⟩ : ByteArray), .string (⟨#[50, 53, 53, 46, 50, 53, 53, 46, 50, 53, 53, 46, 50, 53, 53, 47, 51, 50]⟩ : ByteArray), .string (⟨#[50, 53, 54, 46, 48, 46, 48, 46, 48, 47, 56]⟩ : ByteArray), .string (⟨#[49, 48, 46, 48, 46, 48, 46, 48]⟩ : ByteArray), .string (⟨#[49, 48, 46, 48, 46, 48, 46, 48, 47]⟩ : ByteArray), .string (⟨#[49, 48, 46, 48, 46, 48, 47, 56]⟩ : ByteArray), .string (⟨#[49, 48, 46, 48, 46, 48, 46, 48, 46, 48, 47, 56]⟩ : ByteArray), .string (⟨#[48, 49, 48, 46, 48, 46, 48, 46, 48, 47, 56]⟩ : ByteArray), .string (⟨#[49, 48, 46, 48, 46, 48, 46, 48, 47, 48, 56]⟩ : ByteArray), .string (⟨#[49, 48, 46, 48, 46, 48, 46, 48, 47, 51, 51]⟩ : ByteArray), .string (⟨#[49, 48, 46, 48, 46, 48, 46, 48, 47, 56, 32]⟩ : ByteArray), .string (⟨#[32, 49, 48, 46, 48, 46, 48, 46, 48, 47, 56]⟩ : ByteArray), .string (⟨#[45, 49, 46, 48, 46, 48, 46, 48, 47, 56]⟩ : ByteArray), .string (⟨#[97, 46, 48, 46, 48, 46, 48, 47, 56]⟩ : ByteArray), .string (⟨#[49, 48, 46, 48, 46, 48, 46, 48, 47, 56, 47, 56]⟩ : ByteArray), .string (⟨#[49, 48, 46, 46, 48, 46, 48, 47, 56]⟩ : ByteArray), .string (⟨#[49, 48, 48, 48, 46, 48, 46, 48, 46, 48, 47, 56]⟩ : ByteArray), .string (⟨#[49, 48, 46, 48, 46, 48, 46, 48, 47, 49, 48, 48]⟩ : ByteArray), .string (⟨#[49, 48, 46, 48, 46, 48, 46, 48, 33, 56]⟩ : ByteArray), .string (⟨#[49, 48, 46, 48, 46, 48, 46, 48, 47, 56, 33]⟩ : ByteArray), .string (⟨#[49, 48, 47, 48, 46, 48, 46, 48, 46, 56]⟩ : ByteArray), .string (⟨#[255]⟩ : ByteArray)]) (ok := fun _ => True) (okp := fun _ => True) ?hr ?hp (fun _ hk => hk) trivial (Below.refl _ _) (Nat.le_refl _) (by simp) ?_; (case hd => rfl); (case hg => rfl); (case hr => first | (go_simp; done) | (go_simp; rfl)); (case hp => exact (Reps.one (show Kd.M Kd.string _ _ _ (⟨#[]⟩ : ByteArray) [.string (⟨#[]⟩ : ByteArray)] from rfl) (Reps.one (show Kd.M Kd.string _ _ _ (⟨#[47]⟩ : ByteArray) [.string (⟨#[47]⟩ : ByteArray)] from rfl) (Reps.one (show Kd.M Kd.string _ _ _ (⟨#[48, 46, 48, 46, 48, 46, 48, 47, 48]⟩ : ByteArray) [.string (⟨#[48, 46, 48, 46, 48, 46, 48, 47, 48]⟩ : ByteArray)] from rfl) (Reps.one (show Kd.M Kd.string _ _ _ (⟨#[50, 53, 53, 46, 50, 53, 53, 46, 50, 53, 53, 46, 50, 53, 53, 47, 51, 50]⟩ : ByteArray) [.string (⟨#[50, 53, 53, 46, 50, 53, 53, 46, 50, 53, 53, 46, 50, 53, 53, 47, 51, 50]⟩ : ByteArray)] from rfl) (Reps.one (show Kd.M Kd.string _ _ _ (⟨#[50, 53, 54, 46, 48, 46, 48, 46, 48, 47, 56]⟩ : ByteArray) [.string (⟨#[50, 53, 54, 46, 48, 46, 48, 46, 48, 47, 56]⟩ : ByteArray)] from rfl) (Reps.one (show Kd.M Kd.string _ _ _ (⟨#[49, 48, 46, 48, 46, 48, 46, 48]⟩ : ByteArray) [.string (⟨#[49, 48, 46, 48, 46, 48, 46, 48]⟩ : ByteArray)] from rfl) (Reps.one (show Kd.M Kd.string _ _ _ (⟨#[49, 48, 46, 48, 46, 48, 46, 48, 47]⟩ : ByteArray) [.string (⟨#[49, 48, 46, 48, 46, 48, 46, 48, 47]⟩ : ByteArray)] from rfl) (Reps.one (show Kd.M Kd.string _ _ _ (⟨#[49, 48, 46, 48, 46, 48, 47, 56]⟩ : ByteArray) [.string (⟨#[49, 48, 46, 48, 46, 48, 47, 56]⟩ : ByteArray)] from rfl) (Reps.one (show Kd.M Kd.string _ _ _ (⟨#[49, 48, 46, 48, 46, 48, 46, 48, 46, 48, 47, 56]⟩ : ByteArray) [.string (⟨#[49, 48, 46, 48, 46, 48, 46, 48, 46, 48, 47, 56]⟩ : ByteArray)] from rfl) (Reps.one (show Kd.M Kd.string _ _ _ (⟨#[48, 49, 48, 46, 48, 46, 48, 46, 48, 47, 56]⟩ : ByteArray) [.string (⟨#[48, 49, 48, 46, 48, 46, 48, 46, 48, 47, 56]⟩ : ByteArray)] from rfl) (Reps.one (show Kd.M Kd.string _ _ _ (⟨#[49, 48, 46, 48, 46, 48, 46, 48, 47, 48, 56]⟩ : ByteArray) [.string (⟨#[49, 48, 46, 48, 46, 48, 46, 48, 47, 48, 56]⟩ : ByteArray)] from rfl) (Reps.one (show Kd.M Kd.string _ _ _ (⟨#[49, 48, 46, 48, 46, 48, 46, 48, 47, 51, 51]⟩ : ByteArray) [.string (⟨#[49, 48, 46, 48, 46, 48, 46, 48, 47, 51, 51]⟩ : ByteArray)] from rfl) (Reps.one (show Kd.M Kd.string _ _ _ (⟨#[49, 48, 46, 48, 46, 48, 46, 48, 47, 56, 32]⟩ : ByteArray) [.string (⟨#[49, 48, 46, 48, 46, 48, 46, 48, 47, 56, 32]⟩ : ByteArray)] from rfl) (Reps.one (show Kd.M Kd.string _ _ _ (⟨#[32, 49, 48, 46, 48, 46, 48, 46, 48, 47, 56]⟩ : ByteArray) [.string (⟨#[32, 49, 48, 46, 48, 46, 48, 46, 48, 47, 56]⟩ : ByteArray)] from rfl) (Reps.one (show Kd.M Kd.string _ _ _ (⟨#[45, 49, 46, 48, 46, 48, 46, 48, 47, 56]⟩ : ByteArray) [.string (⟨#[45, 49, 46, 48, 46, 48, 46, 48, 47, 56]⟩ : ByteArray)] from rfl) (Reps.one (show Kd.M Kd.string _ _ _ (⟨#[97, 46, 48, 46, 48, 46, 48, 47, 56]⟩ : ByteArray) [.string (⟨#[97, 46, 48, 46, 48, 46, 48, 47, 56]⟩ : ByteArray)] from rfl) (Reps.one (show Kd.M Kd.string _ _ _ (⟨#[49, 48, 46, 48, 46, 48, 46, 48, 47, 56, 47, 56]⟩ : ByteArray) [.string (⟨#[49, 48, 46, 48, 46, 48, 46, 48, 47, 56, 47, 56]⟩ : ByteArray)] from rfl) (Reps.one (show Kd.M Kd.string _ _ _ (⟨#[49, 48, 46, 46, 48, 46, 48, 47, 56]⟩ : ByteArray) [.string (⟨#[49, 48, 46, 46, 48, 46, 48, 47, 56]⟩ : ByteArray)] from rfl) (Reps.one (show Kd.M Kd.string _ _ _ (⟨#[49, 48, 48, 48, 46, 48, 46, 48, 46, 48, 47, 56]⟩ : ByteArray) [.string (⟨#[49, 48, 48, 48, 46, 48, 46, 48, 46, 48, 47, 56]⟩ : ByteArray)] from rfl) (Reps.one (show Kd.M Kd.string _ _ _ (⟨#[49, 48, 46, 48, 46, 48, 46, 48, 47, 49, 48, 48]⟩ : ByteArray) [.string (⟨#[49, 48, 46, 48, 46, 48, 46, 48, 47, 49, 48, 48]⟩ : ByteArray)] from rfl) (Reps.one (show Kd.M Kd.string _ _ _ (⟨#[49, 48, 46, 48, 46, 48, 46, 48, 33, 56]⟩ : ByteArray) [.string (⟨#[49, 48, 46, 48, 46, 48, 46, 48, 33, 56]⟩ : ByteArray)] from rfl) (Reps.one (show Kd.M Kd.string _ _ _ (⟨#[49, 48, 46, 48, 46, 48, 46, 48, 47, 56, 33]⟩ : ByteArray) [.string (⟨#[49, 48, 46, 48, 46, 48, 46, 48, 47, 56, 33]⟩ : ByteArray)] from rfl) (Reps.one (show Kd.M Kd.string _ _ _ (⟨#[49, 48, 47, 48, 46, 48, 46, 48, 46, 56]⟩ : ByteArray) [.string (⟨#[49, 48, 47, 48, 46, 48, 46, 48, 46, 56]⟩ : ByteArray)] from rfl) (Reps.one (show Kd.M Kd.string _ _ _ (⟨#[255]⟩ : ByteArray) [.string (⟨#[255]⟩ : ByteArray)] from rfl) (Reps.none _ _)))))))))))))))))))))))))); intro v226 w64 ho65 hb hg_ hnew_; clear hg_ hnew_; (first | rw [← Ny225.out] at ho65 | (simp only [Int.reduceToNat] at ho65; rw [← Ny225.out] at ho65)); have n0_ := Aside0.mk (Kd.R_lower ho65 (below_size (by repeat (first | (with_reducible first | exact HB.out | apply below_alloc | apply pw_below_drewN | apply below_drew1) | exact HB.out)))); have n1_ := Aside0.mk (below_step (by repeat (first | (with_reducible first | exact HB.out | apply below_alloc | apply pw_below_drewN | apply below_drew1) | exact HB.out)) hb); clear HB; have HO227 := n0_; have HB := n1_; clear n0_ n1_; clear hb ho65; obtain ⟨Ao66, co66, eo66⟩ := Kd.R_slice HO227.out; subst eo66))
    go_loopg [59] k1 (fun kq v59 w' => ∃ (x59_2 : Int), v59 = .int .i64 x59_2 ∧ Aside0 (signpostlaw1_AddrNumbers.l2 kq y225 (y225.length : Int) x59_2 = some r) ∧ Aside0 (kq ≤ k1) ∧ Aside0 (Kd.R Kd.string 9 w' w.heap.size (fun _ => True) (.slice Ao66 y225.length co66) y225) ∧ Aside0 (Below w.heap.size w w'))
    case atStart => exact ⟨(0), (by first | rfl | (simp; done) | (simp [*]; done)), H', ⟨Nat.le_refl _⟩, ⟨by (with_reducible repeat (first | apply Kd.R_alloc | apply Kd.R_drewN | apply Kd.R_drew)); exact HO227.out⟩, ⟨by repeat (first | (with_reducible first | exact HB.out | apply below_alloc | apply pw_below_drewN | apply below_drew1) | exact HB.out)⟩⟩
    case round =>
     clear H'
     try clear c1
     try clear c1b0
     try clear c2
     try clear p2
     try clear q2
     try clear hx2
     try clear c5
     try clear c5b0
     try clear c6
     try clear c6b0
     try clear p6
     try clear c7
     try clear c7b0
     try clear c8
     try clear c10
     try clear c10b0
     try clear c10b1
     try clear c13
     try clear c13b0
     try clear c16
     try clear c19
     try clear p20
     try clear q20
     try clear hx20
     try clear c23
     try clear c24
     try clear c27
     try clear p64
     try clear hx206_0
     try clear p2
     try clear p206
     try clear q206
     obtain ⟨x59_2, rfl, HA, HK2, HO_57, HB⟩ := hrel
     cases gk with
     | zero => exact absurd HA.out (by simp [signpostlaw1_AddrNumbers.l2])
     | succ k2 =>
      have H := HA.out
      clear HA
      simp only [signpostlaw1_AddrNumbers.l2] at H
      by_cases c67 : x59_2 < (y225.length : Int)
      ·rw [if_pos c67] at H
       have c67b0 : decide (x59_2 < (y225.length : Int)) = true := decide_eq_true c67
       clear c67
       by_cases c68 : 0 ≤ x59_2
       ·rw [if_pos c68] at H
        have c68b0 : decide (0 ≤ x59_2) = true := decide_eq_true c68
        clear c68
        by_cases c69 : x59_2 < (y225.length : Int)
        ·rw [if_pos c69] at H
         have c69b0 : decide (x59_2 < (y225.length : Int)) = true := decide_eq_true c69
         clear c69
         replace H := Option.bind_eq_some_iff.mp H
         obtain ⟨t229, A700, H⟩ := H
         replace H : (if t229 = true then (signpostlaw1_AddrNumbers.l2 k2 y225 (y225.length : Int) (wrap64 (x59_2 + 1))) else (some false)) = some r := H
         have A70 := Aside0.mk A700
         clear A700
         by_cases c71 : t229 = true
         ·subst c71
          have H1 : (signpostlaw1_AddrNumbers.l2 k2 y225 (y225.length : Int) (wrap64 (x59_2 + 1))) = some r := by rw [if_pos rfl] at H; exact H
          clear H
          have H := H1
          clear H1
          have H' := Aside0.mk H
          clear H
          have p228 : 0 ≤ (x59_2 : Int) := of_decide_eq_true (by first | (with_reducible assumption) | assumption)
          have q228 : x59_2 < (y225.length : Int) := of_decide_eq_true (by first | (with_reducible assumption) | assumption)
          obtain ⟨ad228, e228, hx228_0⟩ := Kd.at_string (Kd.R_reads' HO_57.out).2.2 x59_2 p228 q228
          cases e228
          replace p228 := eq_true p228
          replace q228 := eq_true q228
          go_wp2_with (first | ((with_reducible refine gate_callee (f := 27) rfl ?_); refine goesL_ (some 64) rfl rfl Tryd.func27 (by kernel_rfl) rfl #[.string (rdOf ByteArray.empty y225 x59_2)] rfl (by (try simp only [List.map_toArray, List.map_cons, List.map_nil]); first | done | rfl | (simp only [List.length_drop, List.length_take]; rfl)) ?_; (with_reducible refine (signpostlaw1_readP.calls (rdOf ByteArray.empty y225 x59_2) true _ (HENV.out.below (by repeat (first | (with_reducible first | exact HB.out | apply below_alloc | apply pw_below_drewN | apply below_drew1) | exact HB.out))) A70.out).mono ?_); rintro e w72 ⟨rfl, hb⟩; refine ⟨_, rfl, ?_⟩; have n0_ := Aside0.mk (Kd.R_below (by (with_reducible repeat (first | apply Kd.R_alloc | apply Kd.R_drewN | apply Kd.R_drew)); exact HO_57.out) hb); have n1_ := Aside0.mk (below_step (by repeat (first | (with_reducible first | exact HB.out | apply below_alloc | apply pw_below_drewN | apply below_drew1) | exact HB.out)) hb); clear HO_57; clear HB; have HO_57 := n0_; have HB := n1_; clear n0_ n1_; (try clear hb); (try clear hb2); (try clear hk); (try clear hi)))
          go_roundg k2
          case measure => have := HK1.out; have := HK2.out; omega
          case rel => exact ⟨(wrap64 (x59_2 + 1)), (by first | rfl | (simp; done) | (simp [*]; done)), H', ⟨by have := HK1.out; have := HK2.out; omega⟩, ⟨by (with_reducible repeat (first | apply Kd.R_alloc | apply Kd.R_drewN | apply Kd.R_drew)); exact HO_57.out⟩, ⟨by repeat (first | (with_reducible first | exact HB.out | apply below_alloc | apply pw_below_drewN | apply below_drew1) | exact HB.out)⟩⟩
         ·replace c71 := Bool.eq_false_iff.mpr c71
          subst c71
          have H1 : (some false) = some r := by rw [if_neg (show ¬ (false = true) by decide)] at H; exact H
          clear H
          have H := H1
          clear H1
          exact absurd ((Option.some.inj H).trans hr) (by decide)
        ·rw [if_neg c69] at H
         exact absurd H (by simp)
       ·rw [if_neg c68] at H
        exact absurd H (by simp)
      ·rw [if_neg c67] at H
       have c67b0 : decide (x59_2 < (y225.length : Int)) = false := decide_eq_false c67
       clear c67
       replace H := Option.bind_eq_some_iff.mp H
       obtain ⟨t230, A740, H⟩ := H
       replace H : (some t230) = some r := H
       have A74 := Aside0.mk A740
       clear A740
       obtain rfl := Option.some.inj H
       go_wp2_with (first | ((with_reducible refine gate_callee (f := 15) rfl ?_); refine goesL_ (some 67) rfl rfl Tryd.func15 (by kernel_rfl) rfl #[] rfl (by (try simp only [List.map_toArray, List.map_cons, List.map_nil]); first | done | rfl | (simp only [List.length_drop, List.length_take]; rfl)) ?_; (with_reducible refine (signpostlaw1_known.calls  t230 _ (HENV.out.below (by repeat (first | (with_reducible first | exact HB.out | apply below_alloc | apply pw_below_drewN | apply below_drew1) | exact HB.out))) A74.out).mono ?_); rintro e w75 ⟨rfl, hb⟩; refine ⟨_, rfl, ?_⟩; have n0_ := Aside0.mk (Kd.R_below (by (with_reducible repeat (first | apply Kd.R_alloc | apply Kd.R_drewN | apply Kd.R_drew)); exact HO_57.out) hb); have n1_ := Aside0.mk (below_step (by repeat (first | (with_reducible first | exact HB.out | apply below_alloc | apply pw_below_drewN | apply below_drew1) | exact HB.out)) hb); clear HO_57; clear HB; have HO_57 := n0_; have HB := n1_; clear n0_ n1_; (try clear hb); (try clear hb2); (try clear hk); (try clear hi)))
       go_ret
       exact ⟨by first | rfl | (simp [errW_none, errW_some] <;> rfl) | (simp [*, errW_none, errW_some] <;> rfl), by repeat (first | (with_reducible first | exact HB.out | apply below_alloc | apply pw_below_drewN | apply below_drew1) | exact HB.out)⟩
end Go.Proofs.YtokfgajfkopelaaDoor.BP
namespace Go.Proofs.YtokfgajfkopelaaDoor.Mine
open Go.RowKit Go.Proofs.YtokfgajfkopelaaDoorW.PrintWords Go.Proofs.YtokfgajfkopelaaDoorW.PrintLast Go.Proofs.YtokfgajfkopelaaDoorW.PrintMore
set_option linter.unusedVariables false
set_option linter.unusedSimpArgs false
theorem nums_l2 (L : List ByteArray) (hL : ∀ x ∈ L, x.size < 1000) (hlen : L.length < 1000) : ∀ (d k i : Nat), i + d = L.length → d < k → BP.signpostlaw1_AddrNumbers.l2 k L (L.length : Int) i = some true := by
  intro d
  induction d with
  | zero =>
    intro k i hi hk
    obtain ⟨k, rfl⟩ : ∃ j, k = j + 1 := ⟨k - 1, by omega⟩
    rw [BP.signpostlaw1_AddrNumbers.l2, if_neg (by omega), known_f, Option.bind_some]
  | succ d ih =>
    intro k i hi hk
    obtain ⟨k, rfl⟩ : ∃ j, k = j + 1 := ⟨k - 1, by omega⟩
    have hlt : i < L.length := by omega
    have hx : rdOf ByteArray.empty L (i : Int) = L[i] := by
      unfold rdOf
      rw [Int.toNat_natCast, List.getD_eq_getElem?_getD, List.getElem?_eq_getElem hlt]
      rfl
    rw [BP.signpostlaw1_AddrNumbers.l2, if_pos (by omega), if_pos (by omega), if_pos (by omega), hx, readP_f _ (hL _ (List.getElem_mem hlt)), Option.bind_some, if_pos rfl, wrap64_id _ (by omega) (by omega), show (i : Int) + 1 = ((i + 1 : Nat) : Int) by omega]
    exact ih k (i + 1) (by omega) (by omega)
theorem nums_l1 (x1 : Int) (h0 : -1 ≤ x1) (h1 : x1 < 35) (L : List Int) (hL : ∀ x ∈ L, 0 ≤ x ∧ x < 4294967296) (hlen : L.length < 1000) (K : Nat) (hK : 200 ≤ K) (hc : ∀ k, K ≤ k → BP.signpostlaw1_AddrNumbers.l0 k (x1 + 1) = some true) : ∀ (d k i : Nat), i + d = L.length → d + K < k → BP.signpostlaw1_AddrNumbers.l1 k x1 L (L.length : Int) i = some true := by
  intro d
  induction d with
  | zero =>
    intro k i hi hk
    obtain ⟨k, rfl⟩ : ∃ j, k = j + 1 := ⟨k - 1, by omega⟩
    rw [BP.signpostlaw1_AddrNumbers.l1, if_neg (by omega), wrap64_id _ (by omega) (by omega)]
    exact hc k (by omega)
  | succ d ih =>
    intro k i hi hk
    obtain ⟨k, rfl⟩ : ∃ j, k = j + 1 := ⟨k - 1, by omega⟩
    have hlt : i < L.length := by omega
    have hx : rd L (i : Int) = L[i] := by
      unfold rd
      rw [Int.toNat_natCast, List.getD_eq_getElem?_getD, List.getElem?_eq_getElem hlt]
      rfl
    obtain ⟨v, hv⟩ : ∃ v, L[i] = v := ⟨_, rfl⟩
    have hr := hL L[i] (List.getElem_mem hlt)
    rw [hv] at hx hr
    have c1 := cutI_range v (clampI x1) hr.1 hr.2
    have c2 := cutI_range v (clampI 12) hr.1 hr.2
    have c3 := cutI_range 167838211 (clampI 20) (by omega) (by omega)
    rw [BP.signpostlaw1_AddrNumbers.l1, if_pos (by omega), if_pos (by omega), if_pos (by omega), hx, mask_f x1 (by omega), Option.bind_some, refMask_f k (by omega) x1 (by omega), Option.bind_some, if_pos rfl, of_f v x1 hr.1 hr.2 (by omega), Option.bind_some, refOf_f k (by omega) v x1 hr.1 hr.2, Option.bind_some, if_neg (by simp), refOf_f k (by omega) v 12 hr.1 hr.2, Option.bind_some, sameP_f _ _ _ _ _ hr.1 hr.2 c2.1 c2.2.2 hr.1 hr.2, Option.bind_some, if_pos rfl, Option.bind_some, refOf_f k (by omega) 167838211 20 (by omega) (by omega), Option.bind_some, sameP_f _ _ _ _ _ c1.1 c1.2.2 c3.1 c3.2.2 (by omega) (by omega), Option.bind_some, if_pos rfl, Option.bind_some]
    unfold BP.signpostref1_TextP.f
    rw [if_pos ⟨c1.1, c1.2.2⟩, Option.bind_some, readP_f _ (by show (textP (cutI v (clampI x1)) (clampI x1)).size < 1000; have := text_size _ (clampI x1) c1.1 c1.2.2; omega), Option.bind_some, if_pos rfl, wrap64_id _ (by omega) (by omega), show (i : Int) + 1 = ((i + 1 : Nat) : Int) by omega]
    exact ih k (i + 1) (by omega) (by omega)
theorem nums_l0 : ∀ (d k : Nat) (x1 : Int), x1 + d = 35 → -1 ≤ x1 → 10 * d + 300 ≤ k → BP.signpostlaw1_AddrNumbers.l0 k x1 = some true := by
  intro d
  induction d with
  | zero =>
    intro k x1 hi h0 hk
    obtain ⟨k, rfl⟩ : ∃ j, k = j + 1 := ⟨k - 1, by omega⟩
    rw [BP.signpostlaw1_AddrNumbers.l0, if_neg (by omega), Option.bind_some]
    exact nums_l2 _ (by decide) (by decide) _ k 0 (Nat.zero_add _) (by show 24 < k; omega)
  | succ d ih =>
    intro k x1 hi h0 hk
    obtain ⟨k, rfl⟩ : ∃ j, k = j + 1 := ⟨k - 1, by omega⟩
    rw [BP.signpostlaw1_AddrNumbers.l0, if_pos (by omega), Option.bind_some]
    exact nums_l1 x1 h0 (by omega) _ (by decide) (by decide) (10 * d + 300) (by omega) (fun k hk => ih k (x1 + 1) (by omega) (by omega) hk) _ k 0 (Nat.zero_add _) (by show 5 + (10 * d + 300) < k; omega)
theorem AddrNumbers_row (w : World) (henv : Env w) : Calls Tryd.prog 8 #[] w fun e w' => e = .returned (.bool true) ∧ Below w.heap.size w w' :=
  BP.signpostlaw1_AddrNumbers.calls 1000 true rfl w henv (nums_l0 36 1000 (-1) (by omega) (by omega) (by omega))
end Go.Proofs.YtokfgajfkopelaaDoor.Mine
namespace Go.Proofs.YtokfgajfkopelaaDoor.addrNumbers
open Go.ChangeShapes Go.WideShapes Go.ChangeAt Go.RowKit
open Go.ChangeMaps (open_string shut_string)
set_option linter.unusedVariables false
theorem own : ownKnob Tryd.prog.godebug = none := by kernel_rfl
def put (cs : Array Value) : Obj → Obj
  | .cells _ t frozen => .cells cs t frozen
  | o => o
noncomputable def laidWorld (os : Os) : World :=
  { World.holding Tryd.prog os ⟨#[], #[], []⟩ with heap := ((((((World.holding Tryd.prog os ⟨#[], #[], []⟩).heap.modify 4 (put #[.int .u8 0, .int .u8 1, .int .u8 28, .int .u8 2, .int .u8 29, .int .u8 14, .int .u8 24, .int .u8 3, .int .u8 30, .int .u8 22, .int .u8 20, .int .u8 15, .int .u8 25, .int .u8 17, .int .u8 4, .int .u8 8, .int .u8 31, .int .u8 27, .int .u8 13, .int .u8 23, .int .u8 21, .int .u8 19, .int .u8 16, .int .u8 7, .int .u8 26, .int .u8 12, .int .u8 18, .int .u8 6, .int .u8 11, .int .u8 5, .int .u8 10, .int .u8 9])).modify 5 (put #[.int .u8 0, .int .u8 1, .int .u8 56, .int .u8 2, .int .u8 57, .int .u8 49, .int .u8 28, .int .u8 3, .int .u8 61, .int .u8 58, .int .u8 42, .int .u8 50, .int .u8 38, .int .u8 29, .int .u8 17, .int .u8 4, .int .u8 62, .int .u8 47, .int .u8 59, .int .u8 36, .int .u8 45, .int .u8 43, .int .u8 51, .int .u8 22, .int .u8 53, .int .u8 39, .int .u8 33, .int .u8 30, .int .u8 24, .int .u8 18, .int .u8 12, .int .u8 5, .int .u8 63, .int .u8 55, .int .u8 48, .int .u8 27, .int .u8 60, .int .u8 41, .int .u8 37, .int .u8 16, .int .u8 46, .int .u8 35, .int .u8 44, .int .u8 21, .int .u8 52, .int .u8 32, .int .u8 23, .int .u8 11, .int .u8 54, .int .u8 26, .int .u8 40, .int .u8 15, .int .u8 34, .int .u8 20, .int .u8 31, .int .u8 10, .int .u8 25, .int .u8 14, .int .u8 19, .int .u8 9, .int .u8 13, .int .u8 8, .int .u8 7, .int .u8 6])).modify 1 (put #[.int .u64 1, .int .u64 10, .int .u64 100, .int .u64 1000, .int .u64 10000, .int .u64 100000, .int .u64 1000000, .int .u64 10000000, .int .u64 100000000, .int .u64 1000000000, .int .u64 10000000000, .int .u64 100000000000, .int .u64 1000000000000, .int .u64 10000000000000, .int .u64 100000000000000, .int .u64 1000000000000000, .int .u64 10000000000000000, .int .u64 100000000000000000, .int .u64 1000000000000000000, .int .u64 10000000000000000000])).modify 3 (put #[.int .u8 128, .int .u8 191, .int .u8 160, .int .u8 191, .int .u8 128, .int .u8 159, .int .u8 144, .int .u8 191, .int .u8 128, .int .u8 143, .int .u8 0, .int .u8 0, .int .u8 0, .int .u8 0, .int .u8 0, .int .u8 0, .int .u8 0, .int .u8 0, .int .u8 0, .int .u8 0, .int .u8 0, .int .u8 0, .int .u8 0, .int .u8 0, .int .u8 0, .int .u8 0, .int .u8 0, .int .u8 0, .int .u8 0, .int .u8 0, .int .u8 0, .int .u8 0])).modify 2 (put (Go.Pinned.utf8FirstZ.map fun z => Value.int .u8 (z : Nat)).toArray)) }
theorem laid_met (os : Os) : laidMet Tryd.prog Rows.addrNumbersRow.laid ((laidWorld os).forCall (fun _ _ => 0) ⟨#[], #[], []⟩).memory :=
  laidMet_of_run' 8 (by kernel_rfl) (by kernel_rfl)
theorem reads (os : Os) {H : Type} (enc : TypeId × Value → H) : ∃ places, DataW.whole enc Tryd.prog ((laidWorld os).forCall (fun _ _ => 0) ⟨#[], #[], []⟩).memory Tryd.f8.params.toList Rows.addrNumbersSpec.vars false (#[] : Array Value).toList 8 = some ([], [], places) :=
  ⟨[], by kernel_rfl⟩
set_option maxRecDepth 100000 in
theorem lifted (os : Os) (started : os.Started) (H : Type) (enc : TypeId × Value → H) (F : Stop.Interp) :
    ReturnsInHanded {} Tryd.checked os 8 .any ((OpenSpec.ofChange Rows.addrNumbersSpec).preRow enc Tryd.prog Tryd.f8 Rows.addrNumbersRow.domain false Rows.addrNumbersRow.laid) (((OpenSpec.ofChange Rows.addrNumbersSpec).at F).post enc Tryd.prog Tryd.f8 false true false false) := by
  obtain ⟨places, hx⟩ := reads os enc
  refine returnsInHanded_of_row (C := Tryd.checked) (s := OpenSpec.ofChange Rows.addrNumbersSpec) own started (by kernel_rfl) Tryd.func8
    (witness_row_at (enc := enc) (C := Tryd.checked) false (laidWorld os) #[] rfl (by kernel_rfl) (by kernel_rfl) (by kernel_rfl)
      (OpenSpec.preRow_of_cond 8 hx (by kernel_rfl) (fun k hk => by cases hk) (by kernel_rfl) (laid_met os))) ?_
  intro W base args ds gs before hval0 hW _ _ hsz0 hL hShape _
  have henv : Mine.Env W := Mine.env_of_row hL hShape
  have hsz : (DataW.weightsEach Tryd.prog (Tryd.f8.params.toList ++ (OpenSpec.ofChange Rows.addrNumbersSpec).bare.plain.varTypes Tryd.prog) (ds ++ gs)).all (· ≤ reachBytes) = true := hsz0
  have hval : ∀ (j : Nat) t v, Tryd.f8.params[j]? = some t → args[j]? = some v → Value.okWide Tryd.prog W .any base t v := hval0
  have hW' := hW
  obtain ⟨p, q, hA0, hV, rfl, hfz, hnd⟩ := hW
  have hA : DataW.TrodAll enc Tryd.prog W 0 (fun _ => true) true Tryd.f8.params.toList args.toList ds p := hA0
  rw [Tryd.params8] at hA hval hsz
  obtain ⟨rfl, rfl, rfl⟩ := trodAll_none hA
  obtain ⟨rfl, rfl⟩ := trodVars_none hV
  clear hA0 hval0 hsz0 hsz
  refine (Mine.AddrNumbers_row   W henv).mono fun e W' ⟨he, bel⟩ => ?_
  subst he
  exact ⟨_, rfl, _, _, _, [], _, [], hW', trodAll_mk1 (shut_bool Tryd.underlying4 _), trodAll_mk0, rfl, bel.frame _, fun h => by cases h⟩
theorem said : Rows.AddrNumbersSaid :=
  OpenClaim.holds_of_cond 8 Tryd.f8 rfl rfl rfl rfl rfl rfl rfl ⟨rfl, rfl, rfl, rfl, rfl⟩ rfl rfl rfl rfl rfl (by kernel_rfl) Tryd.func8 (by kernel_rfl)
    (of_decide_eq_true (by kernel_rfl)) (by unfold Func.isWrapper; first | (rw [if_pos (by decide +kernel)]; kernel_rfl) | (rw [if_neg (by decide +kernel)]; exact ⟨rfl, rfl⟩))
    (fun os started H enc _ F => by rw [OpenClaim.pre_eq_preRow]; exact lifted os started H enc F)
theorem plain (f : FuncId) (fn : Func) (hf : Tryd.pinned.checked.prog.funcNamed "signpost/signpostlaw1.AddrNumbers" = some f) (hfn : Tryd.pinned.checked.prog.funcs[f]? = some fn) :
    false = Tryd.pinned.checked.prog.looks [] ∧ ∀ (j : Nat) t, fn.params[j]? = some t → Tryd.pinned.checked.prog.wantsStandIn t = false := by
  obtain rfl : f = 8 := Option.some.inj ((show Tryd.prog.funcNamed "signpost/signpostlaw1.AddrNumbers" = some 8 by kernel_rfl).symm.trans hf) |>.symm
  obtain rfl : fn = Tryd.f8 := (Option.some.inj (Tryd.func8.symm.trans hfn)).symm
  refine ⟨by kernel_rfl, fun j t ht => ?_⟩
  rw [Tryd.params8] at ht
  simp at ht
theorem card : Rows.AddrNumbersCardSaid :=
  Claim7.holds_tied_plain_at .later [] _ _ _ _ said (fun _ h => by cases h) (by kernel_rfl) (fun _ h => by cases h) addrNumbers_row_tie rfl ⟨rfl, rfl⟩ (by kernel_rfl) rfl plain (by kernel_rfl)
end Go.Proofs.YtokfgajfkopelaaDoor.addrNumbers
namespace Go.Proofs.YtokfgajfkopelaaDoor
theorem addrNumbers_holds : Rows.AddrNumbersCardSaid := addrNumbers.card
#print axioms addrNumbers_holds
end Go.Proofs.YtokfgajfkopelaaDoor
