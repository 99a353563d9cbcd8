/- AddrBack: a prefix is read from its text; unlike ones have unlike texts; what is read is just what is told of it. -/
import Derived.Test.YtokfgajfkopelaaDoorBAny
import Derived.Test.YtokfgajfkopelaaDoorBAddrBack
namespace Go.Proofs.YtokfgajfkopelaaDoor.Mine
open Go.RowKit Go.Proofs.YtokfgajfkopelaaDoorW.PrintWords Go.Proofs.YtokfgajfkopelaaDoorW.PrintLast Go.Proofs.YtokfgajfkopelaaDoorW.PrintMore
set_option linter.unusedVariables false
set_option linter.unusedSimpArgs false
theorem dec_size (x : Int) (h0 : 0 ≤ x) (h1 : x ≤ 255) : (decS x).size ≤ 3 := dec_short x h0 h1
theorem text_size (a n : Int) (h0 : 0 ≤ a) (h1 : a < 4294967296) : (textP a n).size < 100 := by
  cases hr : rightB a n
  · rw [textP_wrong a n hr]
    decide
  · obtain ⟨n0, n1, _⟩ := (right_iff a n).1 hr
    have b24 := (byte_top a h0 h1).2
    have b16 := (byte_of a 16 h0 h1).2
    have b8 := (byte_of a 8 h0 h1).2
    have b0 := (byte_low a h0 h1).2
    have s0 := dec_size _ b24.1 b24.2
    have s1 := dec_size _ b16.1 b16.2
    have s2 := dec_size _ b8.1 b8.2
    have s3 := dec_size _ b0.1 b0.2
    have s4 := dec_size n n0 (by clear b24 b16 b8 b0 s0 s1 s2 s3; omega)
    rw [textP_right a n hr]
    generalize decS (a / 2 ^ 24 % 256) = x0 at *
    generalize decS (a / 2 ^ 16 % 256) = x1 at *
    generalize decS (a / 2 ^ 8 % 256) = x2 at *
    generalize decS (a % 256) = x3 at *
    generalize decS n = x4 at *
    clear b24 b16 b8 b0
    have z : ∀ b, (⟨#[b]⟩ : ByteArray).size = 1 := fun _ => rfl
    simp only [ByteArray.size_append, z]
    omega
theorem text_f (a n : Int) (h0 : 0 ≤ a) (h1 : a < 4294967296) : BP.addr_TextP.f a n = some (textP a n) := by
  unfold BP.addr_TextP.f
  rw [if_pos ⟨h0, h1⟩]
theorem parseP_f (s : ByteArray) (h : s.size < 1000) : BP.addr_ParseP.f s = some (parseP s) := by
  unfold BP.addr_ParseP.f
  rw [if_pos h]
theorem text_inj (a n b m : Int) (h0 : 0 ≤ a) (h1 : a < 4294967296) (b0 : 0 ≤ b) (b1 : b < 4294967296) (hr : rightB a n = true) (hq : rightB b m = true) (h : textP a n = textP b m) : a = b ∧ n = m := by
  have e := parse_text a n h0 h1 hr
  rw [h, parse_text b m b0 b1 hq] at e
  injection e with e1 e2
  injection e2 with e2 e3
  exact ⟨e1.symm, e2.symm⟩
theorem back_j1 (k : Nat) (s : ByteArray) (hs : s.size < 1000) : BP.signpostlaw1_AddrBack.j1 (k + 1) s = some true := by
  simp only [BP.signpostlaw1_AddrBack.j1]
  rw [parseP_f s hs]
  simp only [Option.bind_some]
  rcases parse_cases s with h | ⟨a, n, a0, a1, hr, h, ht⟩
  · rw [h, known_f]
    rfl
  · rw [h]
    simp only [if_true]
    rw [right_f a n a0 a1, hr, text_f a n a0 a1, ht, known_f]
    simp
theorem AddrBack_plain (k : Nat) (hk : 40 ≤ k) (a b n m : Int) (s : ByteArray) (a0 : 0 ≤ a) (a1 : a < 4294967296) (b0 : 0 ≤ b) (b1 : b < 4294967296) (n0 : -9223372036854775808 ≤ n) (n1 : n ≤ 9223372036854775807) (m0 : -9223372036854775808 ≤ m) (m1 : m ≤ 9223372036854775807) (hs : s.size < 9223372036854775808) :
    BP.signpostlaw1_AddrBack.f k a b n m s = some true := by
  unfold BP.signpostlaw1_AddrBack.f
  rw [any_f k (by omega) a n a0 a1 n0 n1, any_f k (by omega) b m b0 b1 m0 m1]
  obtain ⟨c, x, hc, hx, c0, c1, x0, x1, hr⟩ := any_is a n a0 a1
  obtain ⟨d, y, hd, hy, d0, d1, y0, y1, hq⟩ := any_is b m b0 b1
  rw [hc, hd, hx, hy]
  simp only [Option.bind_some]
  rw [text_f c x c0 c1]
  simp only [Option.bind_some]
  rw [parseP_f _ (by have := text_size c x c0 c1; omega), parse_text c x c0 c1 hr, text_f d y d0 d1]
  simp only [Option.bind_some, if_true]
  rw [if_neg (by simp)]
  have hne : ((textP c x).toList == (textP d y).toList) = (c == d && (x == y)) := by
    rw [ByteArray.toList_eq, ByteArray.toList_eq]
    by_cases he : c = d ∧ x = y
    · rw [he.1, he.2]
      simp
    · have h1 : (c == d && (x == y)) = false := by
        simp
        intro e1 e2
        exact he ⟨e1, e2⟩
      rw [h1]
      apply beq_eq_false_iff_ne.2
      intro e
      exact he (text_inj c x d y c0 c1 d0 d1 hr hq (ba_ext e))
  rw [hne, show ∀ z : Bool, (z != z) = false from fun z => by cases z <;> rfl]
  obtain ⟨k, rfl⟩ : ∃ j, k = j + 2 := ⟨k - 2, by omega⟩
  simp only [BP.signpostlaw1_AddrBack.j0]
  rw [if_neg (by decide)]
  by_cases hl : (s.size : Int) > 60
  · rw [if_pos hl, if_pos (by decide), if_pos (by omega)]
    exact back_j1 k _ (by rw [ByteArray.size_extract]; omega)
  · rw [if_neg hl]
    exact back_j1 k s (by omega)
theorem AddrBack_row (a0 a1 a2 a3 : Int) (a4 : ByteArray) (w0 : (Lit.int .u32 a0).wf = true) (w1 : (Lit.int .u32 a1).wf = true) (w2 : (Lit.int .i64 a2).wf = true) (w3 : (Lit.int .i64 a3).wf = true) (w4 : a4.size ≤ 140737488351232) (w : World) (henv : Env w) : Calls Tryd.prog 3 #[.int .u32 a0, .int .u32 a1, .int .i64 a2, .int .i64 a3, .string a4] w fun e w' => e = .returned (.bool true) ∧ Below w.heap.size w w' :=
  BP.signpostlaw1_AddrBack.calls 40 a0 a1 a2 a3 a4 true rfl w henv (AddrBack_plain 40 (Nat.le_refl _) a0 a1 a2 a3 a4 (wf_u32 w0).1 (wf_u32 w0).2 (wf_u32 w1).1 (wf_u32 w1).2 (wf_i64 w2).1 (wf_i64 w2).2 (wf_i64 w3).1 (wf_i64 w3).2 (by omega))
end Go.Proofs.YtokfgajfkopelaaDoor.Mine
