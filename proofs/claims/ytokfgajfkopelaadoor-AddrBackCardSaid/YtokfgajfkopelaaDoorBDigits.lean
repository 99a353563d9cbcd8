/- The document's digits: a number's text. -/
import Derived.Test.YtokfgajfkopelaaDoorBKnown2
namespace Go.Proofs.YtokfgajfkopelaaDoor.Mine
open Go.RowKit Go.Proofs.YtokfgajfkopelaaDoorW.PrintWords Go.Proofs.YtokfgajfkopelaaDoorW.PrintLast Go.Proofs.YtokfgajfkopelaaDoorW.PrintMore
set_option linter.unusedVariables false
set_option linter.unusedSimpArgs false

theorem rune_digit (x : Int) (h0 : 0 ≤ x) (h1 : x < 10) : Utf8.encode (48 + x) = decS x := by
  have h : ∀ j, j < 10 → Utf8.encode (48 + ((j : Nat) : Int)) = decS ((j : Nat) : Int) := by decide +kernel
  obtain ⟨j, rfl⟩ := Int.eq_ofNat_of_zero_le h0
  exact h j (by omega)
theorem decS_more (x : Int) (h0 : 10 ≤ x) : decS (x / 10) ++ decS (x % 10) = decS x := by
  obtain ⟨j, rfl⟩ := Int.eq_ofNat_of_zero_le (show 0 ≤ x by omega)
  have e : Lib.decDigits j = Lib.decDigits (j / 10) ++ [UInt8.ofNat (48 + j % 10)] := by
    rw [Lib.decDigits, dif_neg (by omega)]
  have e2 : Lib.decDigits (j % 10) = [UInt8.ofNat (48 + j % 10)] := by
    rw [Lib.decDigits, dif_pos (by omega)]
  unfold decS Lib.itoa
  rw [if_neg (by omega), if_neg (by omega), if_neg (by omega)]
  have t1 : ((j : Int) / 10).toNat = j / 10 := by omega
  have t2 : ((j : Int) % 10).toNat = j % 10 := by omega
  rw [t1, t2, Int.toNat_natCast, e2]
  conv => rhs; rw [e]
  apply ByteArray.ext
  rw [ByteArray.data_append]
  simp
theorem dec_short3 (x : Int) (h0 : 0 ≤ x) (h1 : x ≤ 255) : (decS x).size ≤ 3 := dec_short x h0 h1

set_option maxRecDepth 100000 in
set_option maxHeartbeats 3200000 in
theorem digits_any : ∀ (d : Nat) (n : Int), 0 ≤ n → n ≤ 255 → n < 10 ^ (d + 1) → ∀ (w : World), Calls Tryd.prog 43 #[.int .i64 n] w fun e w' => e = .returned (.string (decS n)) ∧ Below w.heap.size w w' := by
  intro d
  induction d with
  | zero =>
    intro n h0 h1 hd w
    have hlt : n < 10 := by simpa using hd
    have HD := Aside0.mk (rune_digit n h0 hlt)
    have e1 : Int.tmod n 10 = n := by rw [Int.tmod_eq_emod_of_nonneg h0]; omega
    have w1 : wrap64 (48 + n) = 48 + n := wrap64_id _ (by omega) (by omega)
    have w2 : IntKind.i32.wrap (48 + n) = 48 + n := by rw [IntKind.wrap_i32]; omega
    have hge : ¬ (n ≥ 10) := by omega
    go_enter Tryd.func43, Tryd.ntmps43
    go_wp2
    go_ret
    exact ⟨by rw [HD.out]; rfl, Below.refl _ _⟩
  | succ d ih =>
    intro n h0 h1 hd w
    by_cases hlt : n < 10
    · exact ih n h0 h1 (by have : (10 : Int) ^ (d + 1) ≥ 10 := by rw [Int.pow_succ]; have : (0 : Int) < 10 ^ d := Int.pow_pos (by decide); omega
                           omega) w
    · have HM := Aside0.mk (decS_more n (by omega))
      have HD := Aside0.mk (rune_digit (n % 10) (by omega) (by omega))
      have e1 : Int.tmod n 10 = n % 10 := Int.tmod_eq_emod_of_nonneg h0
      have e2 : Int.tdiv n 10 = n / 10 := Int.tdiv_eq_ediv_of_nonneg h0
      have w1 : wrap64 (48 + n % 10) = 48 + n % 10 := wrap64_id _ (by omega) (by omega)
      have w2 : IntKind.i32.wrap (48 + n % 10) = 48 + n % 10 := by rw [IntKind.wrap_i32]; omega
      have hge : 10 ≤ n := by omega
      have h2 : ¬ ((decS (n / 10)).size + (Utf8.encode (48 + n % 10)).size > 9223372036854775807) := by
        rw [HD.out]
        have := dec_short3 (n / 10) (by omega) (by omega)
        have := dec_short3 (n % 10) (by omega) (by omega)
        omega
      have hih := Aside0.mk (ih (n / 10) (by omega) (by omega) (by rw [Int.pow_succ] at hd; omega))
      clear ih hd
      go_enter Tryd.func43, Tryd.ntmps43
      go_wp2_with (go_at_call 43; go_loud (refine (hih.out _).mono ?_; rintro e w1 ⟨rfl, hb1⟩))
      go_ret
      exact ⟨by rw [HD.out, HM.out]; rfl, hb1⟩
theorem digits_255 (n : Int) (h0 : 0 ≤ n) (h1 : n ≤ 255) (w : World) : Calls Tryd.prog 43 #[.int .i64 n] w fun e w' => e = .returned (.string (decS n)) ∧ Below w.heap.size w w' := digits_any 2 n h0 h1 (by omega) w
end Go.Proofs.YtokfgajfkopelaaDoor.Mine
