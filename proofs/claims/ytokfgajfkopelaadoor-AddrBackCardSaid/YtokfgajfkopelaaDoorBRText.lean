/- Contracts of functions, each by a Lean function of its own; written by program out of Lean's print of the program. -/
import Derived.Test.YtokfgajfkopelaaDoorBStub3
namespace Go.Proofs.YtokfgajfkopelaaDoor.BP
open Go.Proofs.YtokfgajfkopelaaDoor.Mine
open Go.RowKit Go.Proofs.YtokfgajfkopelaaDoorW.PrintWords Go.Proofs.YtokfgajfkopelaaDoorW.PrintLast Go.Proofs.YtokfgajfkopelaaDoorW.PrintMore
attribute [local go_sem] max2_int min2_int max_two min_two max_three min_three max_four min_four   -- for this text's walks alone
set_option linter.unusedVariables false
set_option linter.unusedSimpArgs false


/-! ### signpostref1_Text: function 28 -/
def signpostref1_Text.f (k : Nat) (a0_0 : Int) (a0_1 : Int) : Option (ByteArray) := (signpostref1_Right.f k a0_0 a0_1).bind fun t105 => (if t105 = true then ((signpostref1_digits.f k (wrap64 (a0_0 / 16777216))).bind fun t106 => (if t106.size + 1 ≤ 9223372036854775807 then ((signpostref1_digits.f k (wrap64 (Go.bits .and .u32 (a0_0 / 65536) 255))).bind fun t107 => (if (t106 ++ (⟨#[46]⟩ : ByteArray)).size + t107.size ≤ 9223372036854775807 then (if ((t106 ++ (⟨#[46]⟩ : ByteArray)) ++ t107).size + 1 ≤ 9223372036854775807 then ((signpostref1_digits.f k (wrap64 (Go.bits .and .u32 (a0_0 / 256) 255))).bind fun t108 => (if (((t106 ++ (⟨#[46]⟩ : ByteArray)) ++ t107) ++ (⟨#[46]⟩ : ByteArray)).size + t108.size ≤ 9223372036854775807 then (if ((((t106 ++ (⟨#[46]⟩ : ByteArray)) ++ t107) ++ (⟨#[46]⟩ : ByteArray)) ++ t108).size + 1 ≤ 9223372036854775807 then ((signpostref1_digits.f k (wrap64 (Go.bits .and .u32 a0_0 255))).bind fun t109 => (if (((((t106 ++ (⟨#[46]⟩ : ByteArray)) ++ t107) ++ (⟨#[46]⟩ : ByteArray)) ++ t108) ++ (⟨#[46]⟩ : ByteArray)).size + t109.size ≤ 9223372036854775807 then (if ((((((t106 ++ (⟨#[46]⟩ : ByteArray)) ++ t107) ++ (⟨#[46]⟩ : ByteArray)) ++ t108) ++ (⟨#[46]⟩ : ByteArray)) ++ t109).size + 1 ≤ 9223372036854775807 then ((signpostref1_digits.f k a0_1).bind fun t110 => (if (((((((t106 ++ (⟨#[46]⟩ : ByteArray)) ++ t107) ++ (⟨#[46]⟩ : ByteArray)) ++ t108) ++ (⟨#[46]⟩ : ByteArray)) ++ t109) ++ (⟨#[47]⟩ : ByteArray)).size + t110.size ≤ 9223372036854775807 then (some ((((((((t106 ++ (⟨#[46]⟩ : ByteArray)) ++ t107) ++ (⟨#[46]⟩ : ByteArray)) ++ t108) ++ (⟨#[46]⟩ : ByteArray)) ++ t109) ++ (⟨#[47]⟩ : ByteArray)) ++ t110)) else (none))) else (none)) else (none))) else (none)) else (none))) else (none)) else (none))) else (none))) else (some (⟨#[]⟩ : ByteArray)))
theorem signpostref1_Text.mono : ∀ a0 a1 k, LeO (signpostref1_Text.f k a0 a1) (signpostref1_Text.f (k + 1) a0 a1) := by
  intro a0 a1 k
  unfold signpostref1_Text.f
  repeat' first
      | (with_reducible exact signpostref1_Right.mono _ _ _)
      | (with_reducible exact signpostref1_digits.mono _ _)
      | (with_reducible exact LeO.refl _)
      | (with_reducible exact LeO.none _)
      | (with_reducible refine LeO.ite ?_ ?_)
      | (with_reducible refine LeO.bind ?_ (fun _ => ?_))
      | exact signpostref1_Right.mono _ _ _
      | exact signpostref1_digits.mono _ _
      | exact LeO.none _
      | refine LeO.ite ?_ ?_
      | refine LeO.bind ?_ (fun _ => ?_)
def signpostref1_Text.T3 : Bool × List (List Nat × List Nat) := (true, [([], []), ([0], [0]), ([1], [1]), ([2], [2]), ([3], [3]), ([4], [4]), ([], []), ([6], [6]), ([7], [7]), ([8], [8]), ([9], [9]), ([10, 4], [10]), ([5, 11], [5, 11]), ([12], [12]), ([], []), ([14], [14]), ([15], [15]), ([16], [16]), ([17], [17]), ([18, 11], [18]), ([13, 19], [13, 19]), ([20], [20]), ([], []), ([22], [22]), ([23], [23]), ([24], [24]), ([25, 19], [25]), ([21, 26], [21, 26]), ([27], [27]), ([], []), ([29], [29]), ([30, 26], [30]), ([28, 31], [28, 31]), ([32, 31, 0, 1, 2, 3, 4, 5, 6, 7, 8, 9, 10, 11, 12, 13, 14, 15, 16, 17, 18, 19, 20, 21, 22, 23, 24, 25, 26, 27, 28, 29, 30, 31, 32], [32])])
def signpostref1_Text.B3 : List Nat := [0, 1, 3, 7, 15, 31, 0, 64, 192, 448, 960, 2015, 4095, 8191, 0, 16384, 49152, 114688, 245760, 511967, 1048575, 2097151, 0, 4194304, 12582912, 29360128, 63950815, 134217727, 268435455, 0, 536870912, 1741672415, 4294967295, 8589934591]
theorem signpostref1_Text.tab3 : rtab .any (opsOf Tryd.f28 3) = signpostref1_Text.T3 := by kernel_rfl
theorem signpostref1_Text.bits3 : waitsOk signpostref1_Text.T3.2 signpostref1_Text.B3 = true := by kernel_rfl
set_option maxHeartbeats 8000000 in
set_option maxRecDepth 100000 in
theorem signpostref1_Text.calls (k : Nat) (a0_0 : Int) (a0_1 : Int) (r : ByteArray) (w : World) (h : signpostref1_Text.f k a0_0 a0_1 = some r) :
    Calls Tryd.prog 28 #[.agg #[.int .u32 a0_0, .int .i64 a0_1]] w fun e w' => e = .returned (.string r) ∧ Below w.heap.size w w' := by
  have hu24 := Tryd.underlying24
  have HB := Aside0.mk (Below.refl w.heap.size w)
  have H : ((signpostref1_Right.f k a0_0 a0_1).bind fun t105 => (if t105 = true then ((signpostref1_digits.f k (wrap64 (a0_0 / 16777216))).bind fun t106 => (if t106.size + 1 ≤ 9223372036854775807 then ((signpostref1_digits.f k (wrap64 (Go.bits .and .u32 (a0_0 / 65536) 255))).bind fun t107 => (if (t106 ++ (⟨#[46]⟩ : ByteArray)).size + t107.size ≤ 9223372036854775807 then (if ((t106 ++ (⟨#[46]⟩ : ByteArray)) ++ t107).size + 1 ≤ 9223372036854775807 then ((signpostref1_digits.f k (wrap64 (Go.bits .and .u32 (a0_0 / 256) 255))).bind fun t108 => (if (((t106 ++ (⟨#[46]⟩ : ByteArray)) ++ t107) ++ (⟨#[46]⟩ : ByteArray)).size + t108.size ≤ 9223372036854775807 then (if ((((t106 ++ (⟨#[46]⟩ : ByteArray)) ++ t107) ++ (⟨#[46]⟩ : ByteArray)) ++ t108).size + 1 ≤ 9223372036854775807 then ((signpostref1_digits.f k (wrap64 (Go.bits .and .u32 a0_0 255))).bind fun t109 => (if (((((t106 ++ (⟨#[46]⟩ : ByteArray)) ++ t107) ++ (⟨#[46]⟩ : ByteArray)) ++ t108) ++ (⟨#[46]⟩ : ByteArray)).size + t109.size ≤ 9223372036854775807 then (if ((((((t106 ++ (⟨#[46]⟩ : ByteArray)) ++ t107) ++ (⟨#[46]⟩ : ByteArray)) ++ t108) ++ (⟨#[46]⟩ : ByteArray)) ++ t109).size + 1 ≤ 9223372036854775807 then ((signpostref1_digits.f k a0_1).bind fun t110 => (if (((((((t106 ++ (⟨#[46]⟩ : ByteArray)) ++ t107) ++ (⟨#[46]⟩ : ByteArray)) ++ t108) ++ (⟨#[46]⟩ : ByteArray)) ++ t109) ++ (⟨#[47]⟩ : ByteArray)).size + t110.size ≤ 9223372036854775807 then (some ((((((((t106 ++ (⟨#[46]⟩ : ByteArray)) ++ t107) ++ (⟨#[46]⟩ : ByteArray)) ++ t108) ++ (⟨#[46]⟩ : ByteArray)) ++ t109) ++ (⟨#[47]⟩ : ByteArray)) ++ t110)) else (none))) else (none)) else (none))) else (none)) else (none))) else (none)) else (none))) else (none))) else (some (⟨#[]⟩ : ByteArray)))) = some r := h
  clear h
  replace H := Option.bind_eq_some_iff.mp H
  obtain ⟨t105, A20, H⟩ := H
  replace H : (if t105 = true then ((signpostref1_digits.f k (wrap64 (a0_0 / 16777216))).bind fun t106 => (if t106.size + 1 ≤ 9223372036854775807 then ((signpostref1_digits.f k (wrap64 (Go.bits .and .u32 (a0_0 / 65536) 255))).bind fun t107 => (if (t106 ++ (⟨#[46]⟩ : ByteArray)).size + t107.size ≤ 9223372036854775807 then (if ((t106 ++ (⟨#[46]⟩ : ByteArray)) ++ t107).size + 1 ≤ 9223372036854775807 then ((signpostref1_digits.f k (wrap64 (Go.bits .and .u32 (a0_0 / 256) 255))).bind fun t108 => (if (((t106 ++ (⟨#[46]⟩ : ByteArray)) ++ t107) ++ (⟨#[46]⟩ : ByteArray)).size + t108.size ≤ 9223372036854775807 then (if ((((t106 ++ (⟨#[46]⟩ : ByteArray)) ++ t107) ++ (⟨#[46]⟩ : ByteArray)) ++ t108).size + 1 ≤ 9223372036854775807 then ((signpostref1_digits.f k (wrap64 (Go.bits .and .u32 a0_0 255))).bind fun t109 => (if (((((t106 ++ (⟨#[46]⟩ : ByteArray)) ++ t107) ++ (⟨#[46]⟩ : ByteArray)) ++ t108) ++ (⟨#[46]⟩ : ByteArray)).size + t109.size ≤ 9223372036854775807 then (if ((((((t106 ++ (⟨#[46]⟩ : ByteArray)) ++ t107) ++ (⟨#[46]⟩ : ByteArray)) ++ t108) ++ (⟨#[46]⟩ : ByteArray)) ++ t109).size + 1 ≤ 9223372036854775807 then ((signpostref1_digits.f k a0_1).bind fun t110 => (if (((((((t106 ++ (⟨#[46]⟩ : ByteArray)) ++ t107) ++ (⟨#[46]⟩ : ByteArray)) ++ t108) ++ (⟨#[46]⟩ : ByteArray)) ++ t109) ++ (⟨#[47]⟩ : ByteArray)).size + t110.size ≤ 9223372036854775807 then (some ((((((((t106 ++ (⟨#[46]⟩ : ByteArray)) ++ t107) ++ (⟨#[46]⟩ : ByteArray)) ++ t108) ++ (⟨#[46]⟩ : ByteArray)) ++ t109) ++ (⟨#[47]⟩ : ByteArray)) ++ t110)) else (none))) else (none)) else (none))) else (none)) else (none))) else (none)) else (none))) else (none))) else (some (⟨#[]⟩ : ByteArray))) = some r := H
  have A2 := Aside0.mk A20
  clear A20
  by_cases c3 : t105 = true
  · subst c3
    have H1 : ((signpostref1_digits.f k (wrap64 (a0_0 / 16777216))).bind fun t106 => (if t106.size + 1 ≤ 9223372036854775807 then ((signpostref1_digits.f k (wrap64 (Go.bits .and .u32 (a0_0 / 65536) 255))).bind fun t107 => (if (t106 ++ (⟨#[46]⟩ : ByteArray)).size + t107.size ≤ 9223372036854775807 then (if ((t106 ++ (⟨#[46]⟩ : ByteArray)) ++ t107).size + 1 ≤ 9223372036854775807 then ((signpostref1_digits.f k (wrap64 (Go.bits .and .u32 (a0_0 / 256) 255))).bind fun t108 => (if (((t106 ++ (⟨#[46]⟩ : ByteArray)) ++ t107) ++ (⟨#[46]⟩ : ByteArray)).size + t108.size ≤ 9223372036854775807 then (if ((((t106 ++ (⟨#[46]⟩ : ByteArray)) ++ t107) ++ (⟨#[46]⟩ : ByteArray)) ++ t108).size + 1 ≤ 9223372036854775807 then ((signpostref1_digits.f k (wrap64 (Go.bits .and .u32 a0_0 255))).bind fun t109 => (if (((((t106 ++ (⟨#[46]⟩ : ByteArray)) ++ t107) ++ (⟨#[46]⟩ : ByteArray)) ++ t108) ++ (⟨#[46]⟩ : ByteArray)).size + t109.size ≤ 9223372036854775807 then (if ((((((t106 ++ (⟨#[46]⟩ : ByteArray)) ++ t107) ++ (⟨#[46]⟩ : ByteArray)) ++ t108) ++ (⟨#[46]⟩ : ByteArray)) ++ t109).size + 1 ≤ 9223372036854775807 then ((signpostref1_digits.f k a0_1).bind fun t110 => (if (((((((t106 ++ (⟨#[46]⟩ : ByteArray)) ++ t107) ++ (⟨#[46]⟩ : ByteArray)) ++ t108) ++ (⟨#[46]⟩ : ByteArray)) ++ t109) ++ (⟨#[47]⟩ : ByteArray)).size + t110.size ≤ 9223372036854775807 then (some ((((((((t106 ++ (⟨#[46]⟩ : ByteArray)) ++ t107) ++ (⟨#[46]⟩ : ByteArray)) ++ t108) ++ (⟨#[46]⟩ : ByteArray)) ++ t109) ++ (⟨#[47]⟩ : ByteArray)) ++ t110)) else (none))) else (none)) else (none))) else (none)) else (none))) else (none)) else (none))) else (none))) = some r := by rw [if_pos rfl] at H; exact H
    clear H
    have H := H1
    clear H1
    replace H := Option.bind_eq_some_iff.mp H
    obtain ⟨t106, A40, H⟩ := H
    replace H : (if t106.size + 1 ≤ 9223372036854775807 then ((signpostref1_digits.f k (wrap64 (Go.bits .and .u32 (a0_0 / 65536) 255))).bind fun t107 => (if (t106 ++ (⟨#[46]⟩ : ByteArray)).size + t107.size ≤ 9223372036854775807 then (if ((t106 ++ (⟨#[46]⟩ : ByteArray)) ++ t107).size + 1 ≤ 9223372036854775807 then ((signpostref1_digits.f k (wrap64 (Go.bits .and .u32 (a0_0 / 256) 255))).bind fun t108 => (if (((t106 ++ (⟨#[46]⟩ : ByteArray)) ++ t107) ++ (⟨#[46]⟩ : ByteArray)).size + t108.size ≤ 9223372036854775807 then (if ((((t106 ++ (⟨#[46]⟩ : ByteArray)) ++ t107) ++ (⟨#[46]⟩ : ByteArray)) ++ t108).size + 1 ≤ 9223372036854775807 then ((signpostref1_digits.f k (wrap64 (Go.bits .and .u32 a0_0 255))).bind fun t109 => (if (((((t106 ++ (⟨#[46]⟩ : ByteArray)) ++ t107) ++ (⟨#[46]⟩ : ByteArray)) ++ t108) ++ (⟨#[46]⟩ : ByteArray)).size + t109.size ≤ 9223372036854775807 then (if ((((((t106 ++ (⟨#[46]⟩ : ByteArray)) ++ t107) ++ (⟨#[46]⟩ : ByteArray)) ++ t108) ++ (⟨#[46]⟩ : ByteArray)) ++ t109).size + 1 ≤ 9223372036854775807 then ((signpostref1_digits.f k a0_1).bind fun t110 => (if (((((((t106 ++ (⟨#[46]⟩ : ByteArray)) ++ t107) ++ (⟨#[46]⟩ : ByteArray)) ++ t108) ++ (⟨#[46]⟩ : ByteArray)) ++ t109) ++ (⟨#[47]⟩ : ByteArray)).size + t110.size ≤ 9223372036854775807 then (some ((((((((t106 ++ (⟨#[46]⟩ : ByteArray)) ++ t107) ++ (⟨#[46]⟩ : ByteArray)) ++ t108) ++ (⟨#[46]⟩ : ByteArray)) ++ t109) ++ (⟨#[47]⟩ : ByteArray)) ++ t110)) else (none))) else (none)) else (none))) else (none)) else (none))) else (none)) else (none))) else (none)) = some r := H
    have A4 := Aside0.mk A40
    clear A40
    by_cases c5 : t106.size + 1 ≤ 9223372036854775807
    · rw [if_pos c5] at H
      have c5b0 := eq_true c5
      have c5b1 : decide (t106.size + 1 ≤ 9223372036854775807) = true := decide_eq_true c5
      try have c5b2 : (9223372036854775807 < t106.size + 1) = False := eq_false (Nat.not_lt.2 c5)
      replace H := Option.bind_eq_some_iff.mp H
      obtain ⟨t107, A60, H⟩ := H
      replace H : (if (t106 ++ (⟨#[46]⟩ : ByteArray)).size + t107.size ≤ 9223372036854775807 then (if ((t106 ++ (⟨#[46]⟩ : ByteArray)) ++ t107).size + 1 ≤ 9223372036854775807 then ((signpostref1_digits.f k (wrap64 (Go.bits .and .u32 (a0_0 / 256) 255))).bind fun t108 => (if (((t106 ++ (⟨#[46]⟩ : ByteArray)) ++ t107) ++ (⟨#[46]⟩ : ByteArray)).size + t108.size ≤ 9223372036854775807 then (if ((((t106 ++ (⟨#[46]⟩ : ByteArray)) ++ t107) ++ (⟨#[46]⟩ : ByteArray)) ++ t108).size + 1 ≤ 9223372036854775807 then ((signpostref1_digits.f k (wrap64 (Go.bits .and .u32 a0_0 255))).bind fun t109 => (if (((((t106 ++ (⟨#[46]⟩ : ByteArray)) ++ t107) ++ (⟨#[46]⟩ : ByteArray)) ++ t108) ++ (⟨#[46]⟩ : ByteArray)).size + t109.size ≤ 9223372036854775807 then (if ((((((t106 ++ (⟨#[46]⟩ : ByteArray)) ++ t107) ++ (⟨#[46]⟩ : ByteArray)) ++ t108) ++ (⟨#[46]⟩ : ByteArray)) ++ t109).size + 1 ≤ 9223372036854775807 then ((signpostref1_digits.f k a0_1).bind fun t110 => (if (((((((t106 ++ (⟨#[46]⟩ : ByteArray)) ++ t107) ++ (⟨#[46]⟩ : ByteArray)) ++ t108) ++ (⟨#[46]⟩ : ByteArray)) ++ t109) ++ (⟨#[47]⟩ : ByteArray)).size + t110.size ≤ 9223372036854775807 then (some ((((((((t106 ++ (⟨#[46]⟩ : ByteArray)) ++ t107) ++ (⟨#[46]⟩ : ByteArray)) ++ t108) ++ (⟨#[46]⟩ : ByteArray)) ++ t109) ++ (⟨#[47]⟩ : ByteArray)) ++ t110)) else (none))) else (none)) else (none))) else (none)) else (none))) else (none)) else (none)) = some r := H
      have A6 := Aside0.mk A60
      clear A60
      by_cases c7 : (t106 ++ (⟨#[46]⟩ : ByteArray)).size + t107.size ≤ 9223372036854775807
      · rw [if_pos c7] at H
        have c7b0 := eq_true c7
        have c7b1 : decide ((t106 ++ (⟨#[46]⟩ : ByteArray)).size + t107.size ≤ 9223372036854775807) = true := decide_eq_true c7
        have c7b8 : (9223372036854775807 < t106.size + 1 + t107.size) = False := eq_false (by have h_ := c7; have z_ : ∀ b, (⟨#[b]⟩ : ByteArray).size = 1 := fun _ => rfl; simp only [ByteArray.size_append, z_] at h_; omega)
        try have c7b2 : (9223372036854775807 < (t106 ++ (⟨#[46]⟩ : ByteArray)).size + t107.size) = False := eq_false (Nat.not_lt.2 c7)
        by_cases c8 : ((t106 ++ (⟨#[46]⟩ : ByteArray)) ++ t107).size + 1 ≤ 9223372036854775807
        · rw [if_pos c8] at H
          have c8b0 := eq_true c8
          have c8b1 : decide (((t106 ++ (⟨#[46]⟩ : ByteArray)) ++ t107).size + 1 ≤ 9223372036854775807) = true := decide_eq_true c8
          have c8b8 : (9223372036854775807 < t106.size + 1 + t107.size + 1) = False := eq_false (by have h_ := c8; have z_ : ∀ b, (⟨#[b]⟩ : ByteArray).size = 1 := fun _ => rfl; simp only [ByteArray.size_append, z_] at h_; omega)
          try have c8b2 : (9223372036854775807 < ((t106 ++ (⟨#[46]⟩ : ByteArray)) ++ t107).size + 1) = False := eq_false (Nat.not_lt.2 c8)
          replace H := Option.bind_eq_some_iff.mp H
          obtain ⟨t108, A90, H⟩ := H
          replace H : (if (((t106 ++ (⟨#[46]⟩ : ByteArray)) ++ t107) ++ (⟨#[46]⟩ : ByteArray)).size + t108.size ≤ 9223372036854775807 then (if ((((t106 ++ (⟨#[46]⟩ : ByteArray)) ++ t107) ++ (⟨#[46]⟩ : ByteArray)) ++ t108).size + 1 ≤ 9223372036854775807 then ((signpostref1_digits.f k (wrap64 (Go.bits .and .u32 a0_0 255))).bind fun t109 => (if (((((t106 ++ (⟨#[46]⟩ : ByteArray)) ++ t107) ++ (⟨#[46]⟩ : ByteArray)) ++ t108) ++ (⟨#[46]⟩ : ByteArray)).size + t109.size ≤ 9223372036854775807 then (if ((((((t106 ++ (⟨#[46]⟩ : ByteArray)) ++ t107) ++ (⟨#[46]⟩ : ByteArray)) ++ t108) ++ (⟨#[46]⟩ : ByteArray)) ++ t109).size + 1 ≤ 9223372036854775807 then ((signpostref1_digits.f k a0_1).bind fun t110 => (if (((((((t106 ++ (⟨#[46]⟩ : ByteArray)) ++ t107) ++ (⟨#[46]⟩ : ByteArray)) ++ t108) ++ (⟨#[46]⟩ : ByteArray)) ++ t109) ++ (⟨#[47]⟩ : ByteArray)).size + t110.size ≤ 9223372036854775807 then (some ((((((((t106 ++ (⟨#[46]⟩ : ByteArray)) ++ t107) ++ (⟨#[46]⟩ : ByteArray)) ++ t108) ++ (⟨#[46]⟩ : ByteArray)) ++ t109) ++ (⟨#[47]⟩ : ByteArray)) ++ t110)) else (none))) else (none)) else (none))) else (none)) else (none)) = some r := H
          have A9 := Aside0.mk A90
          clear A90
          by_cases c10 : (((t106 ++ (⟨#[46]⟩ : ByteArray)) ++ t107) ++ (⟨#[46]⟩ : ByteArray)).size + t108.size ≤ 9223372036854775807
          · rw [if_pos c10] at H
            have c10b0 := eq_true c10
            have c10b1 : decide ((((t106 ++ (⟨#[46]⟩ : ByteArray)) ++ t107) ++ (⟨#[46]⟩ : ByteArray)).size + t108.size ≤ 9223372036854775807) = true := decide_eq_true c10
            have c10b8 : (9223372036854775807 < t106.size + 1 + t107.size + 1 + t108.size) = False := eq_false (by have h_ := c10; have z_ : ∀ b, (⟨#[b]⟩ : ByteArray).size = 1 := fun _ => rfl; simp only [ByteArray.size_append, z_] at h_; omega)
            try have c10b2 : (9223372036854775807 < (((t106 ++ (⟨#[46]⟩ : ByteArray)) ++ t107) ++ (⟨#[46]⟩ : ByteArray)).size + t108.size) = False := eq_false (Nat.not_lt.2 c10)
            by_cases c11 : ((((t106 ++ (⟨#[46]⟩ : ByteArray)) ++ t107) ++ (⟨#[46]⟩ : ByteArray)) ++ t108).size + 1 ≤ 9223372036854775807
            · rw [if_pos c11] at H
              have c11b0 := eq_true c11
              have c11b1 : decide (((((t106 ++ (⟨#[46]⟩ : ByteArray)) ++ t107) ++ (⟨#[46]⟩ : ByteArray)) ++ t108).size + 1 ≤ 9223372036854775807) = true := decide_eq_true c11
              have c11b8 : (9223372036854775807 < t106.size + 1 + t107.size + 1 + t108.size + 1) = False := eq_false (by have h_ := c11; have z_ : ∀ b, (⟨#[b]⟩ : ByteArray).size = 1 := fun _ => rfl; simp only [ByteArray.size_append, z_] at h_; omega)
              try have c11b2 : (9223372036854775807 < ((((t106 ++ (⟨#[46]⟩ : ByteArray)) ++ t107) ++ (⟨#[46]⟩ : ByteArray)) ++ t108).size + 1) = False := eq_false (Nat.not_lt.2 c11)
              replace H := Option.bind_eq_some_iff.mp H
              obtain ⟨t109, A120, H⟩ := H
              replace H : (if (((((t106 ++ (⟨#[46]⟩ : ByteArray)) ++ t107) ++ (⟨#[46]⟩ : ByteArray)) ++ t108) ++ (⟨#[46]⟩ : ByteArray)).size + t109.size ≤ 9223372036854775807 then (if ((((((t106 ++ (⟨#[46]⟩ : ByteArray)) ++ t107) ++ (⟨#[46]⟩ : ByteArray)) ++ t108) ++ (⟨#[46]⟩ : ByteArray)) ++ t109).size + 1 ≤ 9223372036854775807 then ((signpostref1_digits.f k a0_1).bind fun t110 => (if (((((((t106 ++ (⟨#[46]⟩ : ByteArray)) ++ t107) ++ (⟨#[46]⟩ : ByteArray)) ++ t108) ++ (⟨#[46]⟩ : ByteArray)) ++ t109) ++ (⟨#[47]⟩ : ByteArray)).size + t110.size ≤ 9223372036854775807 then (some ((((((((t106 ++ (⟨#[46]⟩ : ByteArray)) ++ t107) ++ (⟨#[46]⟩ : ByteArray)) ++ t108) ++ (⟨#[46]⟩ : ByteArray)) ++ t109) ++ (⟨#[47]⟩ : ByteArray)) ++ t110)) else (none))) else (none)) else (none)) = some r := H
              have A12 := Aside0.mk A120
              clear A120
              by_cases c13 : (((((t106 ++ (⟨#[46]⟩ : ByteArray)) ++ t107) ++ (⟨#[46]⟩ : ByteArray)) ++ t108) ++ (⟨#[46]⟩ : ByteArray)).size + t109.size ≤ 9223372036854775807
              · rw [if_pos c13] at H
                have c13b0 := eq_true c13
                have c13b1 : decide ((((((t106 ++ (⟨#[46]⟩ : ByteArray)) ++ t107) ++ (⟨#[46]⟩ : ByteArray)) ++ t108) ++ (⟨#[46]⟩ : ByteArray)).size + t109.size ≤ 9223372036854775807) = true := decide_eq_true c13
                have c13b8 : (9223372036854775807 < t106.size + 1 + t107.size + 1 + t108.size + 1 + t109.size) = False := eq_false (by have h_ := c13; have z_ : ∀ b, (⟨#[b]⟩ : ByteArray).size = 1 := fun _ => rfl; simp only [ByteArray.size_append, z_] at h_; omega)
                try have c13b2 : (9223372036854775807 < (((((t106 ++ (⟨#[46]⟩ : ByteArray)) ++ t107) ++ (⟨#[46]⟩ : ByteArray)) ++ t108) ++ (⟨#[46]⟩ : ByteArray)).size + t109.size) = False := eq_false (Nat.not_lt.2 c13)
                by_cases c14 : ((((((t106 ++ (⟨#[46]⟩ : ByteArray)) ++ t107) ++ (⟨#[46]⟩ : ByteArray)) ++ t108) ++ (⟨#[46]⟩ : ByteArray)) ++ t109).size + 1 ≤ 9223372036854775807
                · rw [if_pos c14] at H
                  have c14b0 := eq_true c14
                  have c14b1 : decide (((((((t106 ++ (⟨#[46]⟩ : ByteArray)) ++ t107) ++ (⟨#[46]⟩ : ByteArray)) ++ t108) ++ (⟨#[46]⟩ : ByteArray)) ++ t109).size + 1 ≤ 9223372036854775807) = true := decide_eq_true c14
                  have c14b8 : (9223372036854775807 < t106.size + 1 + t107.size + 1 + t108.size + 1 + t109.size + 1) = False := eq_false (by have h_ := c14; have z_ : ∀ b, (⟨#[b]⟩ : ByteArray).size = 1 := fun _ => rfl; simp only [ByteArray.size_append, z_] at h_; omega)
                  try have c14b2 : (9223372036854775807 < ((((((t106 ++ (⟨#[46]⟩ : ByteArray)) ++ t107) ++ (⟨#[46]⟩ : ByteArray)) ++ t108) ++ (⟨#[46]⟩ : ByteArray)) ++ t109).size + 1) = False := eq_false (Nat.not_lt.2 c14)
                  replace H := Option.bind_eq_some_iff.mp H
                  obtain ⟨t110, A150, H⟩ := H
                  replace H : (if (((((((t106 ++ (⟨#[46]⟩ : ByteArray)) ++ t107) ++ (⟨#[46]⟩ : ByteArray)) ++ t108) ++ (⟨#[46]⟩ : ByteArray)) ++ t109) ++ (⟨#[47]⟩ : ByteArray)).size + t110.size ≤ 9223372036854775807 then (some ((((((((t106 ++ (⟨#[46]⟩ : ByteArray)) ++ t107) ++ (⟨#[46]⟩ : ByteArray)) ++ t108) ++ (⟨#[46]⟩ : ByteArray)) ++ t109) ++ (⟨#[47]⟩ : ByteArray)) ++ t110)) else (none)) = some r := H
                  have A15 := Aside0.mk A150
                  clear A150
                  by_cases c16 : (((((((t106 ++ (⟨#[46]⟩ : ByteArray)) ++ t107) ++ (⟨#[46]⟩ : ByteArray)) ++ t108) ++ (⟨#[46]⟩ : ByteArray)) ++ t109) ++ (⟨#[47]⟩ : ByteArray)).size + t110.size ≤ 9223372036854775807
                  · rw [if_pos c16] at H
                    have c16b0 := eq_true c16
                    have c16b1 : decide ((((((((t106 ++ (⟨#[46]⟩ : ByteArray)) ++ t107) ++ (⟨#[46]⟩ : ByteArray)) ++ t108) ++ (⟨#[46]⟩ : ByteArray)) ++ t109) ++ (⟨#[47]⟩ : ByteArray)).size + t110.size ≤ 9223372036854775807) = true := decide_eq_true c16
                    have c16b8 : (9223372036854775807 < t106.size + 1 + t107.size + 1 + t108.size + 1 + t109.size + 1 + t110.size) = False := eq_false (by have h_ := c16; have z_ : ∀ b, (⟨#[b]⟩ : ByteArray).size = 1 := fun _ => rfl; simp only [ByteArray.size_append, z_] at h_; omega)
                    try have c16b2 : (9223372036854775807 < (((((((t106 ++ (⟨#[46]⟩ : ByteArray)) ++ t107) ++ (⟨#[46]⟩ : ByteArray)) ++ t108) ++ (⟨#[46]⟩ : ByteArray)) ++ t109) ++ (⟨#[47]⟩ : ByteArray)).size + t110.size) = False := eq_false (Nat.not_lt.2 c16)
                    obtain rfl := Option.some.inj H
                    go_enter Tryd.func28, Tryd.ntmps28
                    try go_wp2_with (first | ((with_reducible refine gate_dst (N := 1) rfl ?_); refine box_event ?hg (N := 1) ?hd (cs := #[.int .u32 a0_0, .int .i64 a0_1]) (t := 24) ?hr ?_; (case hd => rfl); (case hg => rfl); (case hr => first | (go_simp; done) | (go_simp; rfl)); intro gb104 hg w17 hbox hb; have n0_ := Aside0.mk (below_step (by repeat (first | (with_reducible first | exact HB.out | apply below_alloc | apply pw_below_drewN | apply below_drew1) | exact HB.out)) hb); have n1_ := Aside0.mk (hbox); have n2_ := Aside0.mk ((by rw [hg]; exact (below_size (by repeat (first | (with_reducible first | exact HB.out | apply below_alloc | apply pw_below_drewN | apply below_drew1) | exact HB.out))) : w.heap.size ≤ gb104)); have n3_ := Aside0.mk ((by rw [hg]; exact (below_size (by repeat (first | (with_reducible first | exact HB.out | apply below_alloc | apply pw_below_drewN | apply below_drew1) | exact HB.out))) : w.heap.size ≤ gb104)); clear HB; have HB := n0_; have BK104 := n1_; have GW104 := n2_; have GE104 := n3_; clear n0_ n1_ n2_ n3_; clear hb hbox hg; have hcz18_0 : w17.cell? ⟨gb104, 0, none⟩ = some (.int .u32 a0_0) := (blk_cell BK104.out 0).trans rfl; have hcz18_1 : w17.cell? ⟨gb104, 1, none⟩ = some (.int .i64 a0_1) := (blk_cell BK104.out 1).trans rfl; have hfz18_0 := blk_frozen BK104.out 0; have hfz18_1 := blk_frozen BK104.out 1) | ((with_reducible refine gate_callee (f := 37) rfl ?_); refine goesL_ (some 4) rfl rfl Tryd.func37 (by kernel_rfl) rfl #[.agg #[.int .u32 a0_0, .int .i64 a0_1]] rfl (by (try simp only [List.map_toArray, List.map_cons, List.map_nil]); first | done | rfl | (simp only [List.length_drop, List.length_take]; rfl)) ?_; (with_reducible refine (signpostref1_Right.calls k a0_0 a0_1 true _ A2.out).mono ?_); rintro e w19 ⟨rfl, hb⟩; refine ⟨_, rfl, ?_⟩; have n0_ := Aside0.mk (blk_below (g := gb104) (o := .cells #[.int .u32 a0_0, .int .i64 a0_1] 24 (0, 0)) (by (with_reducible repeat (first | refine blk_drewN ?_ _ | refine blk_drew ?_ | refine blk_alloc ?_ _)); exact BK104.out) hb); have n1_ := Aside0.mk (below_step (by repeat (first | (with_reducible first | exact HB.out | apply below_alloc | apply pw_below_drewN | apply below_drew1 | refine below_set ?_ GE104.out) | exact HB.out)) hb); clear BK104; clear HB; have BK104 := n0_; have HB := n1_; clear n0_ n1_; (try clear hb); (try clear hb2); (try clear hk); (try clear hi)))
                    have n0_ := Aside0.mk (blk_drew BK104.out)
                    have n1_ := Aside0.mk (below_drew1 HB.out)
                    clear BK104
                    clear HB
                    have BK104 := n0_
                    have HB := n1_
                    clear n0_ n1_
                    refine start_ (n := 34) (S := fun w' => w'.cell? ⟨gb104, 0, none⟩ = some (.int .u32 a0_0) ∧ w'.cell? ⟨gb104, 1, none⟩ = some (.int .i64 a0_1)) (ds := []) #[false, false, false, false, false, false, false, false, false, false, false, false, false, false, false, false, false, false, false, false, false, false, false, false, false, false, false, false, false, false, false, false, false, false] (by kernel_rfl) rfl rfl ⟨(blk_cell BK104.out 0).trans rfl, (blk_cell BK104.out 1).trans rfl⟩ (fun hHeld => ?_); refine with_tabW signpostref1_Text.tab3 signpostref1_Text.bits3 (fun HT_ HW_ => ?_)
                    generalize w19.drew = w20 at BK104 HB hHeld ⊢
                    refine pure_ (i := 0) (N := some 6) (v := ?_) (a' := ?_) #[true, false, false, false, false, false, false, false, false, false, false, false, false, false, false, false, false, false, false, false, false, false, false, false, false, false, false, false, false, false, false, false, false, false] rfl rfl (any_of HT_.out (by kernel_rfl)) (fun _ _ _ h => h) (Or.inl ⟨by rfl, ?_⟩) ?_ ?_
                    rotate_left
                    · intro w'
                      go_simp
                      with_reducible rfl
                    rotate_left
                    · simp only [Act.put, List.setIfInBounds_toArray, List.set_cons_zero, List.set_cons_succ, i64_w, i32_w]
                      rfl
                    refine pure_ (i := 6) (N := some 12) (v := ?_) (a' := ?_) #[true, false, false, false, false, false, true, false, false, false, false, false, false, false, false, false, false, false, false, false, false, false, false, false, false, false, false, false, false, false, false, false, false, false] rfl rfl (any_of HT_.out (by kernel_rfl)) (fun _ _ _ h => h) (Or.inl ⟨by rfl, ?_⟩) ?_ ?_
                    rotate_left
                    · intro w'
                      go_simp
                      with_reducible rfl
                    rotate_left
                    · simp only [Act.put, List.setIfInBounds_toArray, List.set_cons_zero, List.set_cons_succ, i64_w, i32_w]
                      rfl
                    refine pure_ (i := 14) (N := some 20) (v := ?_) (a' := ?_) #[true, false, false, false, false, false, true, false, false, false, false, false, false, false, true, false, false, false, false, false, false, false, false, false, false, false, false, false, false, false, false, false, false, false] rfl rfl (any_of HT_.out (by kernel_rfl)) (fun _ _ _ h => h) (Or.inl ⟨by rfl, ?_⟩) ?_ ?_
                    rotate_left
                    · intro w'
                      go_simp
                      with_reducible rfl
                    rotate_left
                    · simp only [Act.put, List.setIfInBounds_toArray, List.set_cons_zero, List.set_cons_succ, i64_w, i32_w]
                      rfl
                    refine pure_ (i := 22) (N := some 28) (v := ?_) (a' := ?_) #[true, false, false, false, false, false, true, false, false, false, false, false, false, false, true, false, false, false, false, false, false, false, true, false, false, false, false, false, false, false, false, false, false, false] rfl rfl (any_of HT_.out (by kernel_rfl)) (fun _ _ _ h => h) (Or.inl ⟨by rfl, ?_⟩) ?_ ?_
                    rotate_left
                    · intro w'
                      go_simp
                      with_reducible rfl
                    rotate_left
                    · simp only [Act.put, List.setIfInBounds_toArray, List.set_cons_zero, List.set_cons_succ, i64_w, i32_w]
                      rfl
                    refine pure_ (i := 29) (N := some 35) (v := ?_) (a' := ?_) #[true, false, false, false, false, false, true, false, false, false, false, false, false, false, true, false, false, false, false, false, false, false, true, false, false, false, false, false, false, true, false, false, false, false] rfl rfl (any_of HT_.out (by kernel_rfl)) (fun _ _ _ h => h) (Or.inl ⟨by rfl, ?_⟩) ?_ ?_
                    rotate_left
                    · intro w'
                      go_simp
                      with_reducible rfl
                    rotate_left
                    · simp only [Act.put, List.setIfInBounds_toArray, List.set_cons_zero, List.set_cons_succ, i64_w, i32_w]
                      rfl
                    refine take_ (i := 1) (N := some 7) (v := ?_) (a' := ?_) #[true, true, false, false, false, false, true, false, false, false, false, false, false, false, true, false, false, false, false, false, false, false, true, false, false, false, false, false, false, true, false, false, false, false] rfl rfl (take_ofW HT_.out HW_.out (by kernel_rfl)) (fun _ _ _ h => h) (Or.inl ⟨by rfl, ?_⟩) hHeld ?_ ?_
                    rotate_left
                    · rintro w' ⟨s0, s1⟩
                      go_simp
                      with_reducible rfl
                    rotate_left
                    · simp only [Act.put, List.setIfInBounds_toArray, List.set_cons_zero, List.set_cons_succ, i64_w, i32_w]
                      rfl
                    refine pure_ (i := 2) (N := some 8) (v := ?_) (a' := ?_) #[true, true, true, false, false, false, true, false, false, false, false, false, false, false, true, false, false, false, false, false, false, false, true, false, false, false, false, false, false, true, false, false, false, false] rfl rfl (any_of HT_.out (by kernel_rfl)) (fun _ _ _ h => h) (Or.inl ⟨by rfl, ?_⟩) ?_ ?_
                    rotate_left
                    · intro w'
                      go_simp
                      with_reducible rfl
                    rotate_left
                    · simp only [Act.put, List.setIfInBounds_toArray, List.set_cons_zero, List.set_cons_succ, i64_w, i32_w]
                      rfl
                    refine pure_ (i := 3) (N := some 9) (v := ?_) (a' := ?_) #[true, true, true, true, false, false, true, false, false, false, false, false, false, false, true, false, false, false, false, false, false, false, true, false, false, false, false, false, false, true, false, false, false, false] rfl rfl (any_of HT_.out (by kernel_rfl)) (fun _ _ _ h => h) (Or.inl ⟨by rfl, ?_⟩) ?_ ?_
                    rotate_left
                    · intro w'
                      go_simp
                      with_reducible rfl
                    rotate_left
                    · simp only [Act.put, List.setIfInBounds_toArray, List.set_cons_zero, List.set_cons_succ, i64_w, i32_w]
                      rfl
                    refine take_ (i := 7) (N := some 13) (v := ?_) (a' := ?_) #[true, true, true, true, false, false, true, true, false, false, false, false, false, false, true, false, false, false, false, false, false, false, true, false, false, false, false, false, false, true, false, false, false, false] rfl rfl (take_ofW HT_.out HW_.out (by kernel_rfl)) (fun _ _ _ h => h) (Or.inl ⟨by rfl, ?_⟩) hHeld ?_ ?_
                    rotate_left
                    · rintro w' ⟨s0, s1⟩
                      go_simp
                      with_reducible rfl
                    rotate_left
                    · simp only [Act.put, List.setIfInBounds_toArray, List.set_cons_zero, List.set_cons_succ, i64_w, i32_w]
                      rfl
                    refine pure_ (i := 8) (N := some 14) (v := ?_) (a' := ?_) #[true, true, true, true, false, false, true, true, true, false, false, false, false, false, true, false, false, false, false, false, false, false, true, false, false, false, false, false, false, true, false, false, false, false] rfl rfl (any_of HT_.out (by kernel_rfl)) (fun _ _ _ h => h) (Or.inl ⟨by rfl, ?_⟩) ?_ ?_
                    rotate_left
                    · intro w'
                      go_simp
                      with_reducible rfl
                    rotate_left
                    · simp only [Act.put, List.setIfInBounds_toArray, List.set_cons_zero, List.set_cons_succ, i64_w, i32_w]
                      rfl
                    refine pure_ (i := 9) (N := some 15) (v := ?_) (a' := ?_) #[true, true, true, true, false, false, true, true, true, true, false, false, false, false, true, false, false, false, false, false, false, false, true, false, false, false, false, false, false, true, false, false, false, false] rfl rfl (any_of HT_.out (by kernel_rfl)) (fun _ _ _ h => h) (Or.inl ⟨by rfl, ?_⟩) ?_ ?_
                    rotate_left
                    · intro w'
                      go_simp
                      with_reducible rfl
                    rotate_left
                    · simp only [Act.put, List.setIfInBounds_toArray, List.set_cons_zero, List.set_cons_succ, i64_w, i32_w]
                      rfl
                    refine pure_ (i := 10) (N := some 16) (v := ?_) (a' := ?_) #[true, true, true, true, false, false, true, true, true, true, true, false, false, false, true, false, false, false, false, false, false, false, true, false, false, false, false, false, false, true, false, false, false, false] rfl rfl (any_of HT_.out (by kernel_rfl)) (fun _ _ _ h => h) (Or.inl ⟨by rfl, ?_⟩) ?_ ?_
                    rotate_left
                    · intro w'
                      go_simp
                      with_reducible rfl
                    rotate_left
                    · simp only [Act.put, List.setIfInBounds_toArray, List.set_cons_zero, List.set_cons_succ, i64_w, i32_w]
                      rfl
                    refine take_ (i := 15) (N := some 21) (v := ?_) (a' := ?_) #[true, true, true, true, false, false, true, true, true, true, true, false, false, false, true, true, false, false, false, false, false, false, true, false, false, false, false, false, false, true, false, false, false, false] rfl rfl (take_ofW HT_.out HW_.out (by kernel_rfl)) (fun _ _ _ h => h) (Or.inl ⟨by rfl, ?_⟩) hHeld ?_ ?_
                    rotate_left
                    · rintro w' ⟨s0, s1⟩
                      go_simp
                      with_reducible rfl
                    rotate_left
                    · simp only [Act.put, List.setIfInBounds_toArray, List.set_cons_zero, List.set_cons_succ, i64_w, i32_w]
                      rfl
                    refine pure_ (i := 16) (N := some 22) (v := ?_) (a' := ?_) #[true, true, true, true, false, false, true, true, true, true, true, false, false, false, true, true, true, false, false, false, false, false, true, false, false, false, false, false, false, true, false, false, false, false] rfl rfl (any_of HT_.out (by kernel_rfl)) (fun _ _ _ h => h) (Or.inl ⟨by rfl, ?_⟩) ?_ ?_
                    rotate_left
                    · intro w'
                      go_simp
                      with_reducible rfl
                    rotate_left
                    · simp only [Act.put, List.setIfInBounds_toArray, List.set_cons_zero, List.set_cons_succ, i64_w, i32_w]
                      rfl
                    refine pure_ (i := 17) (N := some 23) (v := ?_) (a' := ?_) #[true, true, true, true, false, false, true, true, true, true, true, false, false, false, true, true, true, true, false, false, false, false, true, false, false, false, false, false, false, true, false, false, false, false] rfl rfl (any_of HT_.out (by kernel_rfl)) (fun _ _ _ h => h) (Or.inl ⟨by rfl, ?_⟩) ?_ ?_
                    rotate_left
                    · intro w'
                      go_simp
                      with_reducible rfl
                    rotate_left
                    · simp only [Act.put, List.setIfInBounds_toArray, List.set_cons_zero, List.set_cons_succ, i64_w, i32_w]
                      rfl
                    refine pure_ (i := 18) (N := some 24) (v := ?_) (a' := ?_) #[true, true, true, true, false, false, true, true, true, true, true, false, false, false, true, true, true, true, true, false, false, false, true, false, false, false, false, false, false, true, false, false, false, false] rfl rfl (any_of HT_.out (by kernel_rfl)) (fun _ _ _ h => h) (Or.inl ⟨by rfl, ?_⟩) ?_ ?_
                    rotate_left
                    · intro w'
                      go_simp
                      with_reducible rfl
                    rotate_left
                    · simp only [Act.put, List.setIfInBounds_toArray, List.set_cons_zero, List.set_cons_succ, i64_w, i32_w]
                      rfl
                    refine take_ (i := 23) (N := some 29) (v := ?_) (a' := ?_) #[true, true, true, true, false, false, true, true, true, true, true, false, false, false, true, true, true, true, true, false, false, false, true, true, false, false, false, false, false, true, false, false, false, false] rfl rfl (take_ofW HT_.out HW_.out (by kernel_rfl)) (fun _ _ _ h => h) (Or.inl ⟨by rfl, ?_⟩) hHeld ?_ ?_
                    rotate_left
                    · rintro w' ⟨s0, s1⟩
                      go_simp
                      with_reducible rfl
                    rotate_left
                    · simp only [Act.put, List.setIfInBounds_toArray, List.set_cons_zero, List.set_cons_succ, i64_w, i32_w]
                      rfl
                    refine pure_ (i := 24) (N := some 30) (v := ?_) (a' := ?_) #[true, true, true, true, false, false, true, true, true, true, true, false, false, false, true, true, true, true, true, false, false, false, true, true, true, false, false, false, false, true, false, false, false, false] rfl rfl (any_of HT_.out (by kernel_rfl)) (fun _ _ _ h => h) (Or.inl ⟨by rfl, ?_⟩) ?_ ?_
                    rotate_left
                    · intro w'
                      go_simp
                      with_reducible rfl
                    rotate_left
                    · simp only [Act.put, List.setIfInBounds_toArray, List.set_cons_zero, List.set_cons_succ, i64_w, i32_w]
                      rfl
                    refine pure_ (i := 25) (N := some 31) (v := ?_) (a' := ?_) #[true, true, true, true, false, false, true, true, true, true, true, false, false, false, true, true, true, true, true, false, false, false, true, true, true, true, false, false, false, true, false, false, false, false] rfl rfl (any_of HT_.out (by kernel_rfl)) (fun _ _ _ h => h) (Or.inl ⟨by rfl, ?_⟩) ?_ ?_
                    rotate_left
                    · intro w'
                      go_simp
                      with_reducible rfl
                    rotate_left
                    · simp only [Act.put, List.setIfInBounds_toArray, List.set_cons_zero, List.set_cons_succ, i64_w, i32_w]
                      rfl
                    refine take_ (i := 30) (N := some 36) (v := ?_) (a' := ?_) #[true, true, true, true, false, false, true, true, true, true, true, false, false, false, true, true, true, true, true, false, false, false, true, true, true, true, false, false, false, true, true, false, false, false] rfl rfl (take_ofW HT_.out HW_.out (by kernel_rfl)) (fun _ _ _ h => h) (Or.inl ⟨by rfl, ?_⟩) hHeld ?_ ?_
                    rotate_left
                    · rintro w' ⟨s0, s1⟩
                      go_simp
                      with_reducible rfl
                    rotate_left
                    · simp only [Act.put, List.setIfInBounds_toArray, List.set_cons_zero, List.set_cons_succ, i64_w, i32_w]
                      rfl
                    refine one_ (i := 4) (N := some 10) #[true, true, true, true, true, false, true, true, true, true, true, false, false, false, true, true, true, true, true, false, false, false, true, true, true, true, false, false, false, true, true, false, false, false] rfl rfl (one_of HT_.out (by kernel_rfl)) (by decide) (fun K hK => ?_)
                    refine goes_ Tryd.func43 (by kernel_rfl) rfl #[.int .i64 (wrap64 (a0_0 / 16777216))] (by rfl) rfl rfl (by (try simp only [List.map_toArray, List.map_cons, List.map_nil]); first | done | rfl | (simp only [List.length_drop, List.length_take]; rfl)) ?_
                    with_reducible refine (signpostref1_digits.calls k (wrap64 (a0_0 / 16777216)) t106 _ A4.out).mono ?_
                    rintro e w21 ⟨rfl, hb⟩
                    refine ⟨_, rfl, ?_⟩
                    have n0_ := Aside0.mk (blk_below (g := gb104) (o := .cells #[.int .u32 a0_0, .int .i64 a0_1] 24 (0, 0)) (by (with_reducible repeat (first | refine blk_drewN ?_ _ | refine blk_drew ?_ | refine blk_alloc ?_ _)); exact BK104.out) hb)
                    have n1_ := Aside0.mk (below_step (by repeat (first | (with_reducible first | exact HB.out | apply below_alloc | apply pw_below_drewN | apply below_drew1 | refine below_set ?_ GE104.out) | exact HB.out)) hb)
                    clear BK104
                    clear HB
                    have BK104 := n0_
                    have HB := n1_
                    clear n0_ n1_
                    (try clear hb)
                    (try clear hb2)
                    (try clear hk)
                    (try clear hi)
                    refine hK.out _ _ ⟨(blk_cell BK104.out 0).trans rfl, (blk_cell BK104.out 1).trans rfl⟩ (fun hHeld => ?_)
                    clear hK K
                    refine norm_ (a' := ?_) ?_ ?_
                    rotate_left
                    · show Act.put _ (some 10) _ = _
                      simp only [Act.put, List.setIfInBounds_toArray, List.set_cons_zero, List.set_cons_succ, i64_w, i32_w]
                      rfl
                    refine pure_ (i := 5) (N := some 11) (v := ?_) (a' := ?_) #[true, true, true, true, true, true, true, true, true, true, true, false, false, false, true, true, true, true, true, false, false, false, true, true, true, true, false, false, false, true, true, false, false, false] rfl rfl (any_of HT_.out (by kernel_rfl)) (fun _ _ _ h => h) (Or.inl ⟨by rfl, ?_⟩) ?_ ?_
                    rotate_left
                    · intro w'
                      go_simp
                      with_reducible rfl
                    rotate_left
                    · simp only [Act.put, List.setIfInBounds_toArray, List.set_cons_zero, List.set_cons_succ, i64_w, i32_w]
                      rfl
                    refine one_ (i := 11) (N := some 17) #[true, true, true, true, true, true, true, true, true, true, true, true, false, false, true, true, true, true, true, false, false, false, true, true, true, true, false, false, false, true, true, false, false, false] rfl rfl (one_of HT_.out (by kernel_rfl)) (by decide) (fun K hK => ?_)
                    refine goes_ Tryd.func43 (by kernel_rfl) rfl #[.int .i64 (wrap64 (Go.bits .and .u32 (a0_0 / 65536) 255))] (by rfl) rfl rfl (by (try simp only [List.map_toArray, List.map_cons, List.map_nil]); first | done | rfl | (simp only [List.length_drop, List.length_take]; rfl)) ?_
                    with_reducible refine (signpostref1_digits.calls k (wrap64 (Go.bits .and .u32 (a0_0 / 65536) 255)) t107 _ A6.out).mono ?_
                    rintro e w22 ⟨rfl, hb⟩
                    refine ⟨_, rfl, ?_⟩
                    have n0_ := Aside0.mk (blk_below (g := gb104) (o := .cells #[.int .u32 a0_0, .int .i64 a0_1] 24 (0, 0)) (by (with_reducible repeat (first | refine blk_drewN ?_ _ | refine blk_drew ?_ | refine blk_alloc ?_ _)); exact BK104.out) hb)
                    have n1_ := Aside0.mk (below_step (by repeat (first | (with_reducible first | exact HB.out | apply below_alloc | apply pw_below_drewN | apply below_drew1 | refine below_set ?_ GE104.out) | exact HB.out)) hb)
                    clear BK104
                    clear HB
                    have BK104 := n0_
                    have HB := n1_
                    clear n0_ n1_
                    (try clear hb)
                    (try clear hb2)
                    (try clear hk)
                    (try clear hi)
                    refine hK.out _ _ ⟨(blk_cell BK104.out 0).trans rfl, (blk_cell BK104.out 1).trans rfl⟩ (fun hHeld => ?_)
                    clear hK K
                    refine norm_ (a' := ?_) ?_ ?_
                    rotate_left
                    · show Act.put _ (some 17) _ = _
                      simp only [Act.put, List.setIfInBounds_toArray, List.set_cons_zero, List.set_cons_succ, i64_w, i32_w]
                      rfl
                    refine pure_ (i := 12) (N := some 18) (v := ?_) (a' := ?_) #[true, true, true, true, true, true, true, true, true, true, true, true, true, false, true, true, true, true, true, false, false, false, true, true, true, true, false, false, false, true, true, false, false, false] rfl rfl (any_of HT_.out (by kernel_rfl)) (fun _ _ _ h => h) (Or.inl ⟨by rfl, ?_⟩) ?_ ?_
                    rotate_left
                    · intro w'
                      go_simp
                      with_reducible rfl
                    rotate_left
                    · simp only [Act.put, List.setIfInBounds_toArray, List.set_cons_zero, List.set_cons_succ, i64_w, i32_w]
                      rfl
                    refine pure_ (i := 13) (N := some 19) (v := ?_) (a' := ?_) #[true, true, true, true, true, true, true, true, true, true, true, true, true, true, true, true, true, true, true, false, false, false, true, true, true, true, false, false, false, true, true, false, false, false] rfl rfl (any_of HT_.out (by kernel_rfl)) (fun _ _ _ h => h) (Or.inl ⟨by rfl, ?_⟩) ?_ ?_
                    rotate_left
                    · intro w'
                      go_simp
                      with_reducible rfl
                    rotate_left
                    · simp only [Act.put, List.setIfInBounds_toArray, List.set_cons_zero, List.set_cons_succ, i64_w, i32_w]
                      rfl
                    refine one_ (i := 19) (N := some 25) #[true, true, true, true, true, true, true, true, true, true, true, true, true, true, true, true, true, true, true, true, false, false, true, true, true, true, false, false, false, true, true, false, false, false] rfl rfl (one_of HT_.out (by kernel_rfl)) (by decide) (fun K hK => ?_)
                    refine goes_ Tryd.func43 (by kernel_rfl) rfl #[.int .i64 (wrap64 (Go.bits .and .u32 (a0_0 / 256) 255))] (by rfl) rfl rfl (by (try simp only [List.map_toArray, List.map_cons, List.map_nil]); first | done | rfl | (simp only [List.length_drop, List.length_take]; rfl)) ?_
                    with_reducible refine (signpostref1_digits.calls k (wrap64 (Go.bits .and .u32 (a0_0 / 256) 255)) t108 _ A9.out).mono ?_
                    rintro e w23 ⟨rfl, hb⟩
                    refine ⟨_, rfl, ?_⟩
                    have n0_ := Aside0.mk (blk_below (g := gb104) (o := .cells #[.int .u32 a0_0, .int .i64 a0_1] 24 (0, 0)) (by (with_reducible repeat (first | refine blk_drewN ?_ _ | refine blk_drew ?_ | refine blk_alloc ?_ _)); exact BK104.out) hb)
                    have n1_ := Aside0.mk (below_step (by repeat (first | (with_reducible first | exact HB.out | apply below_alloc | apply pw_below_drewN | apply below_drew1 | refine below_set ?_ GE104.out) | exact HB.out)) hb)
                    clear BK104
                    clear HB
                    have BK104 := n0_
                    have HB := n1_
                    clear n0_ n1_
                    (try clear hb)
                    (try clear hb2)
                    (try clear hk)
                    (try clear hi)
                    refine hK.out _ _ ⟨(blk_cell BK104.out 0).trans rfl, (blk_cell BK104.out 1).trans rfl⟩ (fun hHeld => ?_)
                    clear hK K
                    refine norm_ (a' := ?_) ?_ ?_
                    rotate_left
                    · show Act.put _ (some 25) _ = _
                      simp only [Act.put, List.setIfInBounds_toArray, List.set_cons_zero, List.set_cons_succ, i64_w, i32_w]
                      rfl
                    refine pure_ (i := 20) (N := some 26) (v := ?_) (a' := ?_) #[true, true, true, true, true, true, true, true, true, true, true, true, true, true, true, true, true, true, true, true, true, false, true, true, true, true, false, false, false, true, true, false, false, false] rfl rfl (any_of HT_.out (by kernel_rfl)) (fun _ _ _ h => h) (Or.inl ⟨by rfl, ?_⟩) ?_ ?_
                    rotate_left
                    · intro w'
                      go_simp
                      with_reducible rfl
                    rotate_left
                    · simp only [Act.put, List.setIfInBounds_toArray, List.set_cons_zero, List.set_cons_succ, i64_w, i32_w]
                      rfl
                    refine pure_ (i := 21) (N := some 27) (v := ?_) (a' := ?_) #[true, true, true, true, true, true, true, true, true, true, true, true, true, true, true, true, true, true, true, true, true, true, true, true, true, true, false, false, false, true, true, false, false, false] rfl rfl (any_of HT_.out (by kernel_rfl)) (fun _ _ _ h => h) (Or.inl ⟨by rfl, ?_⟩) ?_ ?_
                    rotate_left
                    · intro w'
                      go_simp
                      with_reducible rfl
                    rotate_left
                    · simp only [Act.put, List.setIfInBounds_toArray, List.set_cons_zero, List.set_cons_succ, i64_w, i32_w]
                      rfl
                    refine one_ (i := 26) (N := some 32) #[true, true, true, true, true, true, true, true, true, true, true, true, true, true, true, true, true, true, true, true, true, true, true, true, true, true, true, false, false, true, true, false, false, false] rfl rfl (one_of HT_.out (by kernel_rfl)) (by decide) (fun K hK => ?_)
                    refine goes_ Tryd.func43 (by kernel_rfl) rfl #[.int .i64 (wrap64 (Go.bits .and .u32 a0_0 255))] (by rfl) rfl rfl (by (try simp only [List.map_toArray, List.map_cons, List.map_nil]); first | done | rfl | (simp only [List.length_drop, List.length_take]; rfl)) ?_
                    with_reducible refine (signpostref1_digits.calls k (wrap64 (Go.bits .and .u32 a0_0 255)) t109 _ A12.out).mono ?_
                    rintro e w24 ⟨rfl, hb⟩
                    refine ⟨_, rfl, ?_⟩
                    have n0_ := Aside0.mk (blk_below (g := gb104) (o := .cells #[.int .u32 a0_0, .int .i64 a0_1] 24 (0, 0)) (by (with_reducible repeat (first | refine blk_drewN ?_ _ | refine blk_drew ?_ | refine blk_alloc ?_ _)); exact BK104.out) hb)
                    have n1_ := Aside0.mk (below_step (by repeat (first | (with_reducible first | exact HB.out | apply below_alloc | apply pw_below_drewN | apply below_drew1 | refine below_set ?_ GE104.out) | exact HB.out)) hb)
                    clear BK104
                    clear HB
                    have BK104 := n0_
                    have HB := n1_
                    clear n0_ n1_
                    (try clear hb)
                    (try clear hb2)
                    (try clear hk)
                    (try clear hi)
                    refine hK.out _ _ ⟨(blk_cell BK104.out 0).trans rfl, (blk_cell BK104.out 1).trans rfl⟩ (fun hHeld => ?_)
                    clear hK K
                    refine norm_ (a' := ?_) ?_ ?_
                    rotate_left
                    · show Act.put _ (some 32) _ = _
                      simp only [Act.put, List.setIfInBounds_toArray, List.set_cons_zero, List.set_cons_succ, i64_w, i32_w]
                      rfl
                    refine pure_ (i := 27) (N := some 33) (v := ?_) (a' := ?_) #[true, true, true, true, true, true, true, true, true, true, true, true, true, true, true, true, true, true, true, true, true, true, true, true, true, true, true, true, false, true, true, false, false, false] rfl rfl (any_of HT_.out (by kernel_rfl)) (fun _ _ _ h => h) (Or.inl ⟨by rfl, ?_⟩) ?_ ?_
                    rotate_left
                    · intro w'
                      go_simp
                      with_reducible rfl
                    rotate_left
                    · simp only [Act.put, List.setIfInBounds_toArray, List.set_cons_zero, List.set_cons_succ, i64_w, i32_w]
                      rfl
                    refine pure_ (i := 28) (N := some 34) (v := ?_) (a' := ?_) #[true, true, true, true, true, true, true, true, true, true, true, true, true, true, true, true, true, true, true, true, true, true, true, true, true, true, true, true, true, true, true, false, false, false] rfl rfl (any_of HT_.out (by kernel_rfl)) (fun _ _ _ h => h) (Or.inl ⟨by rfl, ?_⟩) ?_ ?_
                    rotate_left
                    · intro w'
                      go_simp
                      with_reducible rfl
                    rotate_left
                    · simp only [Act.put, List.setIfInBounds_toArray, List.set_cons_zero, List.set_cons_succ, i64_w, i32_w]
                      rfl
                    refine one_ (i := 31) (N := some 37) #[true, true, true, true, true, true, true, true, true, true, true, true, true, true, true, true, true, true, true, true, true, true, true, true, true, true, true, true, true, true, true, true, false, false] rfl rfl (one_of HT_.out (by kernel_rfl)) (by decide) (fun K hK => ?_)
                    refine goes_ Tryd.func43 (by kernel_rfl) rfl #[.int .i64 a0_1] (by rfl) rfl rfl (by (try simp only [List.map_toArray, List.map_cons, List.map_nil]); first | done | rfl | (simp only [List.length_drop, List.length_take]; rfl)) ?_
                    with_reducible refine (signpostref1_digits.calls k a0_1 t110 _ A15.out).mono ?_
                    rintro e w25 ⟨rfl, hb⟩
                    refine ⟨_, rfl, ?_⟩
                    have n0_ := Aside0.mk (blk_below (g := gb104) (o := .cells #[.int .u32 a0_0, .int .i64 a0_1] 24 (0, 0)) (by (with_reducible repeat (first | refine blk_drewN ?_ _ | refine blk_drew ?_ | refine blk_alloc ?_ _)); exact BK104.out) hb)
                    have n1_ := Aside0.mk (below_step (by repeat (first | (with_reducible first | exact HB.out | apply below_alloc | apply pw_below_drewN | apply below_drew1 | refine below_set ?_ GE104.out) | exact HB.out)) hb)
                    clear BK104
                    clear HB
                    have BK104 := n0_
                    have HB := n1_
                    clear n0_ n1_
                    (try clear hb)
                    (try clear hb2)
                    (try clear hk)
                    (try clear hi)
                    refine hK.out _ _ ⟨(blk_cell BK104.out 0).trans rfl, (blk_cell BK104.out 1).trans rfl⟩ (fun hHeld => ?_)
                    clear hK K
                    refine norm_ (a' := ?_) ?_ ?_
                    rotate_left
                    · show Act.put _ (some 37) _ = _
                      simp only [Act.put, List.setIfInBounds_toArray, List.set_cons_zero, List.set_cons_succ, i64_w, i32_w]
                      rfl
                    refine pure_ (i := 32) (N := some 38) (v := ?_) (a' := ?_) #[true, true, true, true, true, true, true, true, true, true, true, true, true, true, true, true, true, true, true, true, true, true, true, true, true, true, true, true, true, true, true, true, true, false] rfl rfl (any_of HT_.out (by kernel_rfl)) (fun _ _ _ h => h) (Or.inl ⟨by rfl, ?_⟩) ?_ ?_
                    rotate_left
                    · intro w'
                      go_simp
                      with_reducible rfl
                    rotate_left
                    · simp only [Act.put, List.setIfInBounds_toArray, List.set_cons_zero, List.set_cons_succ, i64_w, i32_w]
                      rfl
                    refine pure_ (i := 33) (N := some 2) (v := ?_) (a' := ?_) #[true, true, true, true, true, true, true, true, true, true, true, true, true, true, true, true, true, true, true, true, true, true, true, true, true, true, true, true, true, true, true, true, true, true] rfl rfl (any_of HT_.out (by kernel_rfl)) (fun _ _ _ h => h) (Or.inl ⟨by rfl, ?_⟩) ?_ ?_
                    rotate_left
                    · intro w'
                      go_simp
                      with_reducible rfl
                    rotate_left
                    · simp only [Act.put, List.setIfInBounds_toArray, List.set_cons_zero, List.set_cons_succ, i64_w, i32_w]
                      rfl
                    refine done_ (done_of HT_.out (by kernel_rfl)) ?_
                    try go_wp2
                    go_ret
                    exact ⟨by first | rfl | (simp [errW_none, errW_some] <;> rfl) | (simp [*, errW_none, errW_some] <;> rfl), by repeat (first | (with_reducible first | exact HB.out | apply below_alloc | apply pw_below_drewN | apply below_drew1 | refine below_set ?_ GE104.out) | exact HB.out)⟩
                  · rw [if_neg c16] at H
                    exact absurd H (by simp)
                · rw [if_neg c14] at H
                  exact absurd H (by simp)
              · rw [if_neg c13] at H
                exact absurd H (by simp)
            · rw [if_neg c11] at H
              exact absurd H (by simp)
          · rw [if_neg c10] at H
            exact absurd H (by simp)
        · rw [if_neg c8] at H
          exact absurd H (by simp)
      · rw [if_neg c7] at H
        exact absurd H (by simp)
    · rw [if_neg c5] at H
      exact absurd H (by simp)
  · replace c3 := Bool.eq_false_iff.mpr c3
    subst c3
    have H1 : (some (⟨#[]⟩ : ByteArray)) = some r := by rw [if_neg (show ¬ (false = true) by decide)] at H; exact H
    clear H
    have H := H1
    clear H1
    obtain rfl := Option.some.inj H
    go_enter Tryd.func28, Tryd.ntmps28
    go_wp2_with (first | ((with_reducible refine gate_dst (N := 1) rfl ?_); refine box_event ?hg (N := 1) ?hd (cs := #[.int .u32 a0_0, .int .i64 a0_1]) (t := 24) ?hr ?_; (case hd => rfl); (case hg => rfl); (case hr => first | (go_simp; done) | (go_simp; rfl)); intro gb104 hg w26 hbox hb; have n0_ := Aside0.mk (below_step (by repeat (first | (with_reducible first | exact HB.out | apply below_alloc | apply pw_below_drewN | apply below_drew1) | exact HB.out)) hb); have n1_ := Aside0.mk (hbox); have n2_ := Aside0.mk ((by rw [hg]; exact (below_size (by repeat (first | (with_reducible first | exact HB.out | apply below_alloc | apply pw_below_drewN | apply below_drew1) | exact HB.out))) : w.heap.size ≤ gb104)); have n3_ := Aside0.mk ((by rw [hg]; exact (below_size (by repeat (first | (with_reducible first | exact HB.out | apply below_alloc | apply pw_below_drewN | apply below_drew1) | exact HB.out))) : w.heap.size ≤ gb104)); clear HB; have HB := n0_; have BK104 := n1_; have GW104 := n2_; have GE104 := n3_; clear n0_ n1_ n2_ n3_; clear hb hbox hg; have hcz27_0 : w26.cell? ⟨gb104, 0, none⟩ = some (.int .u32 a0_0) := (blk_cell BK104.out 0).trans rfl; have hcz27_1 : w26.cell? ⟨gb104, 1, none⟩ = some (.int .i64 a0_1) := (blk_cell BK104.out 1).trans rfl; have hfz27_0 := blk_frozen BK104.out 0; have hfz27_1 := blk_frozen BK104.out 1) | ((with_reducible refine gate_callee (f := 37) rfl ?_); refine goesL_ (some 4) rfl rfl Tryd.func37 (by kernel_rfl) rfl #[.agg #[.int .u32 a0_0, .int .i64 a0_1]] rfl (by (try simp only [List.map_toArray, List.map_cons, List.map_nil]); first | done | rfl | (simp only [List.length_drop, List.length_take]; rfl)) ?_; (with_reducible refine (signpostref1_Right.calls k a0_0 a0_1 false _ A2.out).mono ?_); rintro e w28 ⟨rfl, hb⟩; refine ⟨_, rfl, ?_⟩; have n0_ := Aside0.mk (blk_below (g := gb104) (o := .cells #[.int .u32 a0_0, .int .i64 a0_1] 24 (0, 0)) (by (with_reducible repeat (first | refine blk_drewN ?_ _ | refine blk_drew ?_ | refine blk_alloc ?_ _)); exact BK104.out) hb); have n1_ := Aside0.mk (below_step (by repeat (first | (with_reducible first | exact HB.out | apply below_alloc | apply pw_below_drewN | apply below_drew1 | refine below_set ?_ GE104.out) | exact HB.out)) hb); clear BK104; clear HB; have BK104 := n0_; have HB := n1_; clear n0_ n1_; (try clear hb); (try clear hb2); (try clear hk); (try clear hi)))
    go_ret
    exact ⟨by first | rfl | (simp [errW_none, errW_some] <;> rfl) | (simp [*, errW_none, errW_some] <;> rfl), by repeat (first | (with_reducible first | exact HB.out | apply below_alloc | apply pw_below_drewN | apply below_drew1 | refine below_set ?_ GE104.out) | exact HB.out)⟩
end Go.Proofs.YtokfgajfkopelaaDoor.BP
