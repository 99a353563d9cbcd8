/- The document's Text, in plain words: it is addr's. -/
import Derived.Test.YtokfgajfkopelaaDoorBRText
namespace Go.Proofs.YtokfgajfkopelaaDoor.Mine
open Go.RowKit Go.Proofs.YtokfgajfkopelaaDoorW.PrintWords Go.Proofs.YtokfgajfkopelaaDoorW.PrintLast Go.Proofs.YtokfgajfkopelaaDoorW.PrintMore
set_option linter.unusedVariables false
set_option linter.unusedSimpArgs false

theorem join_four (x0 x1 x2 x3 : ByteArray) : (⟨(Lib.join ([x0, x1, x2, x3].map (·.data.toList)) [46]).toArray⟩ : ByteArray) = x0 ++ ⟨#[46]⟩ ++ x1 ++ ⟨#[46]⟩ ++ x2 ++ ⟨#[46]⟩ ++ x3 := by
  apply ByteArray.ext
  simp only [ByteArray.data_append]
  apply Array.toList_inj.1
  simp [Lib.join, List.intercalate, List.intersperse]
theorem textP_right (a n : Int) (h : rightB a n = true) : textP a n = decS (a / 2 ^ 24 % 256) ++ ⟨#[46]⟩ ++ decS (a / 2 ^ 16 % 256) ++ ⟨#[46]⟩ ++ decS (a / 2 ^ 8 % 256) ++ ⟨#[46]⟩ ++ decS (a % 256) ++ ⟨#[47]⟩ ++ decS n := by
  unfold textP
  rw [if_pos h]
  have e : partsOf a 4 = [decS (a / 2 ^ 24 % 256), decS (a / 2 ^ 16 % 256), decS (a / 2 ^ 8 % 256), decS (a / 2 ^ 0 % 256)] := rfl
  rw [e, join_four, show (2 : Int) ^ 0 = 1 by decide, Int.ediv_one]
theorem textP_wrong (a n : Int) (h : rightB a n = false) : textP a n = ⟨#[]⟩ := by
  unfold textP
  rw [if_neg (by rw [h]; decide)]
theorem byte_top (a : Int) (h0 : 0 ≤ a) (h1 : a < 4294967296) : wrap64 (a / 16777216) = a / 2 ^ 24 % 256 ∧ 0 ≤ a / 2 ^ 24 % 256 ∧ a / 2 ^ 24 % 256 ≤ 255 := by
  have e : (2 : Int) ^ 24 = 16777216 := by decide
  rw [e, wrap64_id _ (by omega) (by omega)]
  omega
theorem byte_low (a : Int) (h0 : 0 ≤ a) (h1 : a < 4294967296) : wrap64 (bits .and .u32 a 255) = a % 256 ∧ 0 ≤ a % 256 ∧ a % 256 ≤ 255 := by
  have b0 := byte_of a 0 h0 h1
  rw [show (2 : Int) ^ 0 = 1 by decide, Int.ediv_one] at b0
  exact b0
theorem nine_parts (x0 x1 x2 x3 x4 : ByteArray) (s0 : x0.size ≤ 3) (s1 : x1.size ≤ 3) (s2 : x2.size ≤ 3) (s3 : x3.size ≤ 3) (s4 : x4.size ≤ 3) :
    x0.size + 1 ≤ 9223372036854775807 ∧ (x0 ++ (⟨#[46]⟩ : ByteArray)).size + x1.size ≤ 9223372036854775807 ∧ (x0 ++ (⟨#[46]⟩ : ByteArray) ++ x1).size + 1 ≤ 9223372036854775807 ∧ (x0 ++ (⟨#[46]⟩ : ByteArray) ++ x1 ++ (⟨#[46]⟩ : ByteArray)).size + x2.size ≤ 9223372036854775807 ∧ (x0 ++ (⟨#[46]⟩ : ByteArray) ++ x1 ++ (⟨#[46]⟩ : ByteArray) ++ x2).size + 1 ≤ 9223372036854775807 ∧
    (x0 ++ (⟨#[46]⟩ : ByteArray) ++ x1 ++ (⟨#[46]⟩ : ByteArray) ++ x2 ++ (⟨#[46]⟩ : ByteArray)).size + x3.size ≤ 9223372036854775807 ∧ (x0 ++ (⟨#[46]⟩ : ByteArray) ++ x1 ++ (⟨#[46]⟩ : ByteArray) ++ x2 ++ (⟨#[46]⟩ : ByteArray) ++ x3).size + 1 ≤ 9223372036854775807 ∧ (x0 ++ (⟨#[46]⟩ : ByteArray) ++ x1 ++ (⟨#[46]⟩ : ByteArray) ++ x2 ++ (⟨#[46]⟩ : ByteArray) ++ x3 ++ (⟨#[47]⟩ : ByteArray)).size + x4.size ≤ 9223372036854775807 := by
  have z : ∀ b, (⟨#[b]⟩ : ByteArray).size = 1 := fun _ => rfl
  simp only [ByteArray.size_append, z]
  omega
theorem refText_f (k : Nat) (hk : 33 ≤ k) (a n : Int) (h0 : 0 ≤ a) (h1 : a < 4294967296) : BP.signpostref1_Text.f k a n = some (textP a n) := by
  unfold BP.signpostref1_Text.f
  rw [refRight_f k hk a n h0 h1]
  simp only [Option.bind_some]
  cases hr : rightB a n
  · rw [textP_wrong a n hr]
    rfl
  · rw [textP_right a n hr]
    obtain ⟨n0, n1, _⟩ := (right_iff a n).1 hr
    rw [if_pos rfl]
    have b24 := byte_top a h0 h1
    have b16 := byte_of a 16 h0 h1
    have b8 := byte_of a 8 h0 h1
    have b0 := byte_low a h0 h1
    have s0 := dec_short3 _ b24.2.1 b24.2.2
    have s1 := dec_short3 _ b16.2.1 b16.2.2
    have s2 := dec_short3 _ b8.2.1 b8.2.2
    have s3 := dec_short3 _ b0.2.1 b0.2.2
    have s4 := dec_short3 n n0 (by clear b24 b16 b8 b0 s0 s1 s2 s3; omega)
    have e16 : a / 65536 = a / 2 ^ 16 := rfl
    have e8 : a / 256 = a / 2 ^ 8 := rfl
    rw [b24.1, e16, b16.1, e8, b8.1, b0.1]
    unfold BP.signpostref1_digits.f
    rw [if_pos b24.2, if_pos b16.2, if_pos b8.2, if_pos b0.2, if_pos ⟨n0, by clear b24 b16 b8 b0 s0 s1 s2 s3; omega⟩]
    simp only [Option.bind_some, if_true]
    clear b24 b16 b8 b0 e16 e8
    generalize decS (a / 2 ^ 24 % 256) = x0 at *
    generalize decS (a / 2 ^ 16 % 256) = x1 at *
    generalize decS (a / 2 ^ 8 % 256) = x2 at *
    generalize decS (a % 256) = x3 at *
    generalize decS n = x4 at *
    obtain ⟨q0, q1, q2, q3, q4, q5, q6, q7⟩ := nine_parts x0 x1 x2 x3 x4 s0 s1 s2 s3 s4
    rw [if_pos q0, if_pos q1, if_pos q2, if_pos q3, if_pos q4, if_pos q5, if_pos q6, if_pos q7]
end Go.Proofs.YtokfgajfkopelaaDoor.Mine
namespace Go.Proofs.YtokfgajfkopelaaDoor.BP
open Go.RowKit Go.Proofs.YtokfgajfkopelaaDoor.Mine Go.Proofs.YtokfgajfkopelaaDoorW.PrintWords Go.Proofs.YtokfgajfkopelaaDoorW.PrintLast Go.Proofs.YtokfgajfkopelaaDoorW.PrintMore
def signpostref1_TextP.f (a n : Int) : Option ByteArray := if 0 ≤ a ∧ a < 4294967296 then some (textP a n) else none
theorem signpostref1_TextP.calls (a0_0 a0_1 : Int) (r : ByteArray) (w : World) (h : signpostref1_TextP.f a0_0 a0_1 = some r) :
    Calls Tryd.prog 28 #[.agg #[.int .u32 a0_0, .int .i64 a0_1]] w fun e w' => e = .returned (.string r) ∧ Below w.heap.size w w' := by
  unfold signpostref1_TextP.f at h
  split at h
  · rename_i hs
    exact signpostref1_Text.calls 33 a0_0 a0_1 r w ((refText_f 33 (Nat.le_refl _) a0_0 a0_1 hs.1 hs.2).trans h)
  · exact absurd h (by simp)
end Go.Proofs.YtokfgajfkopelaaDoor.BP
