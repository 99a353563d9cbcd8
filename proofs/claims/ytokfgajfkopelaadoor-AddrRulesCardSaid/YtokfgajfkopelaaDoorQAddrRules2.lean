/- Halves part a prefix; what is above covers it; of two prefixes either one covers the other, or they have no address together; what meets covers both, and nothing longer does: whatever the addresses and the numbers. -/
import Derived.Below
import Derived.ChangeOld
import Derived.Deep.DeepHandedRow
import Derived.Lib.LaidTab
import Derived.OpenShut
import Derived.ProofKit
import Derived.SevenTiedAt
import Derived.ShutString
import Derived.SizedLaws
import Derived.Test.YtokfgajfkopelaaDoorCards
import Derived.Test.YtokfgajfkopelaaDoorTie
import Derived.WalkKit
import Derived.Test.YtokfgajfkopelaaDoorQAddrRules1
namespace Go.Proofs.YtokfgajfkopelaaDoor.Mine
open Go.RowKit Go.Proofs.YtokfgajfkopelaaDoorW.PrintWords Go.Proofs.YtokfgajfkopelaaDoorW.PrintLast Go.Proofs.YtokfgajfkopelaaDoorW.PrintMore
set_option linter.unusedVariables false
set_option linter.unusedSimpArgs false
theorem bool_same (b : Bool) : (b != b) = false := by cases b <;> rfl
theorem has_dec (a n x : Int) (hp : rightB a n = true) : hasB a n x = decide (a ≤ x ∧ x < a + lo n) := by
  by_cases h : a ≤ x ∧ x < a + lo n
  · rw [decide_eq_true h]
    exact (hasB_iff a n x hp).2 ((cut_block a n x ((right_iff a n).1 hp).2.2).2 h)
  · rw [decide_eq_false h]
    cases hh : hasB a n x
    · rfl
    · exact absurd ((cut_block a n x ((right_iff a n).1 hp).2.2).1 ((hasB_iff a n x hp).1 hh)) h
theorem halves_right (a n : Int) (h0 : 0 ≤ a) (h1 : a < 4294967296) (hp : rightB a n = true) (hn : n < 32) : rightB a (n + 1) = true ∧ rightB (a + lo (n + 1)) (n + 1) = true ∧ a + 2 * lo (n + 1) ≤ 4294967296 := by
  obtain ⟨n0, n1, h2⟩ := (right_iff a n).1 hp
  have hd := lo_dvd n (n + 1) (by omega) (by omega)
  have ha : a % lo (n + 1) = 0 := by
    have := Int.emod_emod_of_dvd a hd
    rw [h2] at this
    simpa using this.symm
  refine ⟨(right_iff _ _).2 ⟨by omega, by omega, ha⟩, (right_iff _ _).2 ⟨by omega, by omega, by rw [Int.add_emod_right]; exact ha⟩, ?_⟩
  obtain ⟨c, hc⟩ := lo_dvd 0 n n0 n1
  rw [lo_zero] at hc
  have hl := lo_pos n
  have hh := lo_half n n0 hn
  obtain ⟨q, hq⟩ := Int.dvd_of_emod_eq_zero h2
  have : q < c := by
    by_cases hh : q < c
    · exact hh
    · exfalso
      have := Int.mul_le_mul_of_nonneg_left (show c ≤ q by omega) (Int.le_of_lt hl)
      omega
  have h3 := Int.mul_le_mul_of_nonneg_left (show q + 1 ≤ c by omega) (Int.le_of_lt hl)
  rw [Int.mul_add, Int.mul_one] at h3
  omega
section
variable (a n b m : Int) (a0 : 0 ≤ a) (a1 : a < 4294967296) (b0 : 0 ≤ b) (b1 : b < 4294967296) (P : rightB a n = true) (Q : rightB b m = true)
include a0 a1 b0 b1 P Q
theorem rules_end (k : Nat) (X S : Int) : BP.signpostlaw1_AddrRules.l0 (k + 1) 2 a n b m X S = some true := by
  obtain ⟨p0, p1, _⟩ := (right_iff a n).1 P
  obtain ⟨q0, q1, _⟩ := (right_iff b m).1 Q
  rw [BP.signpostlaw1_AddrRules.l0, if_neg (by decide), covers_f a n b m a0 a1 b0 b1, Option.bind_some, known_f, Option.bind_some]
  by_cases h1 : coversB a n b m = true
  · rw [if_pos h1]
  · rw [if_neg h1, covers_f b m a n b0 b1 a0 a1, Option.bind_some]
    by_cases h2 : coversB b m a n = true
    · rw [if_pos h2]
    · rw [if_neg h2, has_f a n b a0 a1 b0 b1, Option.bind_some]
      have hn1 : ¬ (cutI b n = a ∧ n ≤ m) := fun h => h1 ((coversB_iff a n b m P Q).2 h)
      have hn2 : ¬ (cutI a m = b ∧ m ≤ n) := fun h => h2 ((coversB_iff b m a n Q P).2 h)
      have h3 : ¬ hasB a n b = true := by
        intro h
        have hc := (hasB_iff a n b P).1 h
        refine hn2 ⟨?_, by by_cases h4 : n ≤ m; exact absurd ⟨hc, h4⟩ hn1; omega⟩
        have h4 : m ≤ n := by
          by_cases h4 : n ≤ m
          · exact absurd ⟨hc, h4⟩ hn1
          · omega
        rw [← hc, cutI_cut b m n h4 p1]
        exact right_own b m Q
      have h5 : ¬ hasB b m a = true := by
        intro h
        have hc := (hasB_iff b m a Q).1 h
        have h4 : n ≤ m := by
          by_cases h4 : m ≤ n
          · exact absurd ⟨hc, h4⟩ hn2
          · omega
        refine hn1 ⟨?_, h4⟩
        rw [← hc, cutI_cut a n m h4 q1]
        exact right_own a n P
      rw [if_neg h3, has_f b m a b0 b1 a0 a1, Option.bind_some, if_neg h5]
theorem rules_half (X S : Int) (X0 : 0 ≤ X) (X1 : X < 4294967296) (R : rightB X S = true) (hm : ∀ u : Int, 0 ≤ u → u ≤ n → u ≤ m → cutI a u = cutI b u → u ≤ S) (k : Nat) (i : Int) (i0 : 0 ≤ i) (i1 : i < 2) (hc : BP.signpostlaw1_AddrRules.l0 (k + 1) (i + 1) a n b m X S = some true) :
    BP.signpostlaw1_AddrRules.l0 (k + 2) i a n b m X S = some true := by
  obtain ⟨s0, s1, _⟩ := (right_iff X S).1 R
  rw [BP.signpostlaw1_AddrRules.l0, if_pos i1, half_f k X S _ X0 X1, Option.bind_some, wrap64_id (i + 1) (by omega) (by omega), hc]
  have hh : halfP X S (i == 1) = (0, 0, false) ∨ ∃ Y, S < 32 ∧ halfP X S (i == 1) = (Y, S + 1, true) ∧ 0 ≤ Y ∧ Y < 4294967296 ∧ rightB Y (S + 1) = true := by
    unfold halfP
    rw [if_pos R]
    by_cases h : S = 32
    · rw [if_pos h]
      exact .inl rfl
    · rw [if_neg h]
      obtain ⟨r1, r2, r3⟩ := halves_right X S X0 X1 R (by omega)
      have hl := lo_pos (S + 1)
      right
      by_cases hi : (i == 1) = true
      · rw [if_pos hi]
        exact ⟨_, by omega, rfl, by omega, by omega, r2⟩
      · rw [if_neg hi]
        exact ⟨_, by omega, rfl, X0, X1, r1⟩
  rcases hh with h | ⟨Y, hS, h, Y0, Y1, RY⟩
  · rw [h, if_neg (by simp)]
  · rw [h, if_pos rfl]
    show (BP.addr_Covers.f Y (S + 1) a n).bind _ = some true
    rw [covers_f Y (S + 1) a n Y0 Y1 a0 a1, Option.bind_some]
    by_cases h1 : coversB Y (S + 1) a n = true
    · rw [if_pos h1]
      show (BP.addr_Covers.f Y (S + 1) b m).bind _ = some true
      rw [covers_f Y (S + 1) b m Y0 Y1 b0 b1, Option.bind_some]
      by_cases h2 : coversB Y (S + 1) b m = true
      · exfalso
        obtain ⟨c1, d1⟩ := (coversB_iff Y (S + 1) a n RY P).1 h1
        obtain ⟨c2, d2⟩ := (coversB_iff Y (S + 1) b m RY Q).1 h2
        have := hm (S + 1) (by omega) d1 d2 (by rw [c1, c2])
        omega
      · rw [if_neg h2]
    · rw [if_neg h1]
theorem rules_j1 (k : Nat) (hk : 50 ≤ k) : BP.signpostlaw1_AddrRules.j1 k a n b m = some true := by
  obtain ⟨k, rfl⟩ : ∃ j, k = j + 6 := ⟨k - 6, by omega⟩
  obtain ⟨s, s0, sn, sm, s32, es, cs, ms, k0, k1, S⟩ := meetP_spec a n b m a0 a1 b0 b1 P Q
  obtain ⟨t, t0, tm, tn, t32, et, ct, mt, kt0, kt1, T⟩ := meetP_spec b m a n b0 b1 a0 a1 Q P
  have hst : t = s := by
    have h1 := ms t t0 tn tm ct.symm
    have h2 := mt s s0 sm sn cs.symm
    omega
  have hend := rules_end a n b m a0 a1 b0 b1 P Q (k + 1) (cutI a s) s
  have h1 := rules_half a n b m a0 a1 b0 b1 P Q (cutI a s) s k0 k1 S ms (k + 1) 1 (by omega) (by omega) hend
  have h0 := rules_half a n b m a0 a1 b0 b1 P Q (cutI a s) s k0 k1 S ms (k + 2) 0 (by omega) (by omega) h1
  have hj2 : BP.signpostlaw1_AddrRules.j2 (k + 5) false a n b m (cutI a s) s = some true := by
    rw [BP.signpostlaw1_AddrRules.j2, if_neg (by simp)]
    exact h0
  have hcov : coversB a n b m = (cutI a s == a && (s == n)) := by
    obtain ⟨p0, p1, _⟩ := (right_iff a n).1 P
    by_cases h : coversB a n b m = true
    · obtain ⟨c1, d1⟩ := (coversB_iff a n b m P Q).1 h
      have := ms n p0 (Int.le_refl _) d1 (by rw [c1, right_own a n P])
      have hs : s = n := by omega
      rw [h, hs, right_own a n P]
      simp
    · have h2 : ¬ (cutI a s = a ∧ s = n) := by
        intro ⟨e1, e2⟩
        refine h ((coversB_iff a n b m P Q).2 ⟨?_, by omega⟩)
        rw [← e2, ← cs]
        exact e1
      have h3 : coversB a n b m = false := by simpa using h
      rw [h3]
      symm
      by_cases e1 : cutI a s = a
      · have e2 : ¬ s = n := fun e => h2 ⟨e1, e⟩
        simp [e1, e2]
      · simp [e1]
  rw [BP.signpostlaw1_AddrRules.j1, meet_f (k + 5) (by omega) a n b m a0 a1 b0 b1, es, Option.bind_some]
  dsimp only
  rw [covers_f (cutI a s) s a n k0 k1 a0 a1, (coversB_iff (cutI a s) s a n S P).2 ⟨rfl, sn⟩, Option.bind_some, if_pos rfl, covers_f (cutI a s) s b m k0 k1 b0 b1, (coversB_iff (cutI a s) s b m S Q).2 ⟨cs.symm, sm⟩, Option.bind_some, if_pos rfl, meet_f (k + 5) (by omega) b m a n b0 b1 a0 a1, et, Option.bind_some]
  dsimp only
  rw [hst, ← cs, if_neg (by simp), covers_f a n b m a0 a1 b0 b1, Option.bind_some, hcov, bool_same]
  exact hj2
theorem rules_j0_whole (k : Nat) (hk : 60 ≤ k) (x : Int) (u v w z : Int) : BP.signpostlaw1_AddrRules.j0 (k + 1) x false false a n b m u v w z = some true := by
  rw [BP.signpostlaw1_AddrRules.j0, if_neg (by simp), if_neg (by simp)]
  exact rules_j1 a n b m a0 a1 b0 b1 P Q k (by omega)
theorem rules_j0 (k : Nat) (hk : 60 ≤ k) (x : Int) (x0 : 0 ≤ x) (x1 : x < 4294967296) (hn : n < 32) : BP.signpostlaw1_AddrRules.j0 (k + 1) x true false a n b m a (n + 1) (a + lo (n + 1)) (n + 1) = some true := by
  obtain ⟨p0, p1, p2⟩ := (right_iff a n).1 P
  obtain ⟨r1, r2, r3⟩ := halves_right a n a0 a1 P hn
  have hl := lo_pos (n + 1)
  have hh := lo_half n p0 hn
  have hj := rules_j1 a n b m a0 a1 b0 b1 P Q k (by omega)
  have ulow : upP a (n + 1) = (a, n, true) := by
    unfold upP
    rw [if_pos r1, if_neg (by omega), show n + 1 - 1 = n by omega, right_own a n P]
  have uhigh : upP (a + lo (n + 1)) (n + 1) = (a, n, true) := by
    unfold upP
    rw [if_pos r2, if_neg (by omega), show n + 1 - 1 = n by omega, (cut_block a n (a + lo (n + 1)) p2).2 ⟨by omega, by omega⟩]
  rw [BP.signpostlaw1_AddrRules.j0, if_neg (by simp), if_pos rfl, up_f a (n + 1) a0 a1, ulow, Option.bind_some, up_f (a + lo (n + 1)) (n + 1) (by omega) (by omega), uhigh, Option.bind_some]
  dsimp only
  rw [if_pos rfl, if_pos rfl, if_neg (by simp), if_neg (by simp), less_f a n a (n + 1) a0 a1 a0 a1, lessB_iff a n a (n + 1) P r1, decide_eq_true (by omega), Option.bind_some, if_pos rfl, less_f a (n + 1) (a + lo (n + 1)) (n + 1) a0 a1 (by omega) (by omega), lessB_iff a (n + 1) (a + lo (n + 1)) (n + 1) r1 r2, decide_eq_true (by omega), Option.bind_some, if_pos rfl, has_f a (n + 1) x a0 a1 x0 x1, has_f (a + lo (n + 1)) (n + 1) x (by omega) (by omega) x0 x1, has_f a n x a0 a1 x0 x1, has_dec a (n + 1) x r1, has_dec (a + lo (n + 1)) (n + 1) x r2, has_dec a n x P]
  simp only [Option.bind_some]
  by_cases h1 : a ≤ x ∧ x < a + lo (n + 1)
  · rw [decide_eq_true h1, decide_eq_false (show ¬ (a + lo (n + 1) ≤ x ∧ x < a + lo (n + 1) + lo (n + 1)) by omega), decide_eq_true (show a ≤ x ∧ x < a + lo n by omega), if_pos rfl, if_neg (by simp), if_pos rfl, if_neg (by simp)]
    exact hj
  · rw [decide_eq_false h1, if_neg (by simp), if_neg (by simp)]
    have e : decide (a ≤ x ∧ x < a + lo n) = decide (a + lo (n + 1) ≤ x ∧ x < a + lo (n + 1) + lo (n + 1)) := by
      by_cases h2 : a ≤ x ∧ x < a + lo n
      · rw [decide_eq_true h2, decide_eq_true (by omega)]
      · rw [decide_eq_false h2, decide_eq_false (by omega)]
    rw [e, bool_same, if_neg (by simp)]
    exact hj
end
theorem AddrRules_plain (k : Nat) (hk : 100 ≤ k) (a b n m : Int) (a0 : 0 ≤ a) (a1 : a < 4294967296) (b0 : 0 ≤ b) (b1 : b < 4294967296) (n0 : -9223372036854775808 ≤ n) (n1 : n ≤ 9223372036854775807) (m0 : -9223372036854775808 ≤ m) (m1 : m ≤ 9223372036854775807) :
    BP.signpostlaw1_AddrRules.f k a b n m = some true := by
  obtain ⟨k, rfl⟩ : ∃ j, k = j + 1 := ⟨k - 1, by omega⟩
  obtain ⟨p, x, hp, hx, p0, p1, x0, x1, P⟩ := any_is a n a0 a1
  obtain ⟨q, y, hq, hy, q0, q1, y0, y1, Q⟩ := any_is b m b0 b1
  unfold BP.signpostlaw1_AddrRules.f
  rw [any_f (k + 1) (by omega) a n a0 a1 n0 n1, Option.bind_some, any_f (k + 1) (by omega) b m b0 b1 m0 m1, Option.bind_some, hp, hx, hq, hy]
  dsimp only
  rw [half_f k p x false p0 p1, Option.bind_some, half_f k p x true p0 p1, Option.bind_some]
  by_cases h : x = 32
  · have e : ∀ z, halfP p x z = (0, 0, false) := fun z => by
      unfold halfP
      rw [if_pos P, if_pos h]
    rw [e, e]
    dsimp only
    rw [decide_eq_false (show ¬ x < 32 by omega), bool_same, if_neg (by simp)]
    exact rules_j0_whole p x q y p0 p1 q0 q1 P Q k (by omega) b 0 0 0 0
  · have e1 : halfP p x false = (p, x + 1, true) := by
      unfold halfP
      rw [if_pos P, if_neg h, if_neg (by simp)]
    have e2 : halfP p x true = (p + lo (x + 1), x + 1, true) := by
      unfold halfP
      rw [if_pos P, if_neg h, if_pos rfl]
    rw [e1, e2]
    dsimp only
    rw [decide_eq_true (show x < 32 by omega), bool_same, if_neg (by simp)]
    exact rules_j0 p x q y p0 p1 q0 q1 P Q k (by omega) b b0 b1 (by omega)
theorem AddrRules_row (a0 a1 a2 a3 : Int) (w0 : (Lit.int .u32 a0).wf = true) (w1 : (Lit.int .u32 a1).wf = true) (w2 : (Lit.int .i64 a2).wf = true) (w3 : (Lit.int .i64 a3).wf = true) (w : World) (henv : Env w) : Calls Tryd.prog 10 #[.int .u32 a0, .int .u32 a1, .int .i64 a2, .int .i64 a3] w fun e w' => e = .returned (.bool true) ∧ Below w.heap.size w w' :=
  BP.signpostlaw1_AddrRules.calls 100 a0 a1 a2 a3 true rfl w henv (AddrRules_plain 100 (Nat.le_refl _) a0 a1 a2 a3 (wf_u32 w0).1 (wf_u32 w0).2 (wf_u32 w1).1 (wf_u32 w1).2 (wf_i64 w2).1 (wf_i64 w2).2 (wf_i64 w3).1 (wf_i64 w3).2)
end Go.Proofs.YtokfgajfkopelaaDoor.Mine
namespace Go.Proofs.YtokfgajfkopelaaDoor.addrRules
open Go.ChangeShapes Go.WideShapes Go.ChangeAt Go.RowKit
open Go.ChangeMaps (open_string shut_string)
set_option linter.unusedVariables false
theorem own : ownKnob Tryd.prog.godebug = none := by kernel_rfl
def put (cs : Array Value) : Obj → Obj
  | .cells _ t frozen => .cells cs t frozen
  | o => o
noncomputable def laidWorld (os : Os) : World :=
  { World.holding Tryd.prog os ⟨#[], #[], []⟩ with heap := ((((((World.holding Tryd.prog os ⟨#[], #[], []⟩).heap.modify 4 (put #[.int .u8 0, .int .u8 1, .int .u8 28, .int .u8 2, .int .u8 29, .int .u8 14, .int .u8 24, .int .u8 3, .int .u8 30, .int .u8 22, .int .u8 20, .int .u8 15, .int .u8 25, .int .u8 17, .int .u8 4, .int .u8 8, .int .u8 31, .int .u8 27, .int .u8 13, .int .u8 23, .int .u8 21, .int .u8 19, .int .u8 16, .int .u8 7, .int .u8 26, .int .u8 12, .int .u8 18, .int .u8 6, .int .u8 11, .int .u8 5, .int .u8 10, .int .u8 9])).modify 5 (put #[.int .u8 0, .int .u8 1, .int .u8 56, .int .u8 2, .int .u8 57, .int .u8 49, .int .u8 28, .int .u8 3, .int .u8 61, .int .u8 58, .int .u8 42, .int .u8 50, .int .u8 38, .int .u8 29, .int .u8 17, .int .u8 4, .int .u8 62, .int .u8 47, .int .u8 59, .int .u8 36, .int .u8 45, .int .u8 43, .int .u8 51, .int .u8 22, .int .u8 53, .int .u8 39, .int .u8 33, .int .u8 30, .int .u8 24, .int .u8 18, .int .u8 12, .int .u8 5, .int .u8 63, .int .u8 55, .int .u8 48, .int .u8 27, .int .u8 60, .int .u8 41, .int .u8 37, .int .u8 16, .int .u8 46, .int .u8 35, .int .u8 44, .int .u8 21, .int .u8 52, .int .u8 32, .int .u8 23, .int .u8 11, .int .u8 54, .int .u8 26, .int .u8 40, .int .u8 15, .int .u8 34, .int .u8 20, .int .u8 31, .int .u8 10, .int .u8 25, .int .u8 14, .int .u8 19, .int .u8 9, .int .u8 13, .int .u8 8, .int .u8 7, .int .u8 6])).modify 1 (put #[.int .u64 1, .int .u64 10, .int .u64 100, .int .u64 1000, .int .u64 10000, .int .u64 100000, .int .u64 1000000, .int .u64 10000000, .int .u64 100000000, .int .u64 1000000000, .int .u64 10000000000, .int .u64 100000000000, .int .u64 1000000000000, .int .u64 10000000000000, .int .u64 100000000000000, .int .u64 1000000000000000, .int .u64 10000000000000000, .int .u64 100000000000000000, .int .u64 1000000000000000000, .int .u64 10000000000000000000])).modify 3 (put #[.int .u8 128, .int .u8 191, .int .u8 160, .int .u8 191, .int .u8 128, .int .u8 159, .int .u8 144, .int .u8 191, .int .u8 128, .int .u8 143, .int .u8 0, .int .u8 0, .int .u8 0, .int .u8 0, .int .u8 0, .int .u8 0, .int .u8 0, .int .u8 0, .int .u8 0, .int .u8 0, .int .u8 0, .int .u8 0, .int .u8 0, .int .u8 0, .int .u8 0, .int .u8 0, .int .u8 0, .int .u8 0, .int .u8 0, .int .u8 0, .int .u8 0, .int .u8 0])).modify 2 (put (Go.Pinned.utf8FirstZ.map fun z => Value.int .u8 (z : Nat)).toArray)) }
theorem laid_met (os : Os) : laidMet Tryd.prog Rows.addrRulesRow.laid ((laidWorld os).forCall (fun _ _ => 0) ⟨#[], #[.int .u32 0, .int .u32 0, .int .i64 0, .int .i64 0], []⟩).memory :=
  laidMet_of_run' 8 (by kernel_rfl) (by kernel_rfl)
theorem reads (os : Os) {H : Type} (enc : TypeId × Value → H) : ∃ places, DataW.whole enc Tryd.prog ((laidWorld os).forCall (fun _ _ => 0) ⟨#[], #[.int .u32 0, .int .u32 0, .int .i64 0, .int .i64 0], []⟩).memory Tryd.f10.params.toList Rows.addrRulesSpec.vars false (#[.int .u32 0, .int .u32 0, .int .i64 0, .int .i64 0] : Array Value).toList 8 = some ([.lit (.int .u32 0), .lit (.int .u32 0), .lit (.int .i64 0), .lit (.int .i64 0)], [], places) :=
  ⟨[], by kernel_rfl⟩
set_option maxRecDepth 100000 in
theorem lifted (os : Os) (started : os.Started) (H : Type) (enc : TypeId × Value → H) (F : Stop.Interp) :
    ReturnsInHanded {} Tryd.checked os 10 .any ((OpenSpec.ofChange Rows.addrRulesSpec).preRow enc Tryd.prog Tryd.f10 Rows.addrRulesRow.domain false Rows.addrRulesRow.laid) (((OpenSpec.ofChange Rows.addrRulesSpec).at F).post enc Tryd.prog Tryd.f10 false true false false) := by
  obtain ⟨places, hx⟩ := reads os enc
  refine returnsInHanded_of_row (C := Tryd.checked) (s := OpenSpec.ofChange Rows.addrRulesSpec) own started (by kernel_rfl) Tryd.func10
    (witness_row_at (enc := enc) (C := Tryd.checked) false (laidWorld os) #[.int .u32 0, .int .u32 0, .int .i64 0, .int .i64 0] rfl (by kernel_rfl) (by kernel_rfl) (by kernel_rfl)
      (OpenSpec.preRow_of_cond 8 hx (by kernel_rfl) (fun k hk => by cases hk) (by kernel_rfl) (laid_met os))) ?_
  intro W base args ds gs before hval0 hW _ _ hsz0 hL hShape _
  have henv : Mine.Env W := Mine.env_of_row hL hShape
  have hsz : (DataW.weightsEach Tryd.prog (Tryd.f10.params.toList ++ (OpenSpec.ofChange Rows.addrRulesSpec).bare.plain.varTypes Tryd.prog) (ds ++ gs)).all (· ≤ reachBytes) = true := hsz0
  have hval : ∀ (j : Nat) t v, Tryd.f10.params[j]? = some t → args[j]? = some v → Value.okWide Tryd.prog W .any base t v := hval0
  have hW' := hW
  obtain ⟨p, q, hA0, hV, rfl, hfz, hnd⟩ := hW
  have hA : DataW.TrodAll enc Tryd.prog W 0 (fun _ => true) true Tryd.f10.params.toList args.toList ds p := hA0
  rw [Tryd.params10] at hA hval hsz
  obtain ⟨v0, vs0, d0, ds0, p0, q0, hargs, rfl, rfl, h0, r0⟩ := trodAll_cons hA
  obtain ⟨v1, vs1, d1, ds1, p1, q1, rfl, rfl, rfl, h1, r1⟩ := trodAll_cons r0
  obtain ⟨v2, vs2, d2, ds2, p2, q2, rfl, rfl, rfl, h2, r2⟩ := trodAll_cons r1
  obtain ⟨v3, vs3, d3, ds3, p3, q3, rfl, rfl, rfl, h3, r3⟩ := trodAll_cons r2
  obtain ⟨rfl, rfl, rfl⟩ := trodAll_nil r3
  obtain rfl : args = #[v0, v1, v2, v3] := by cases args; simp_all
  obtain ⟨rfl, rfl⟩ := trodVars_none hV
  obtain ⟨a0, rfl, rfl, rfl, w0⟩ := open_int Tryd.underlying22 (hval 0 22 v0 rfl rfl) h0
  obtain ⟨a1, rfl, rfl, rfl, w1⟩ := open_int Tryd.underlying22 (hval 1 22 v1 rfl rfl) h1
  obtain ⟨a2, rfl, rfl, rfl, w2⟩ := open_int Tryd.underlying3 (hval 2 3 v2 rfl rfl) h2
  obtain ⟨a3, rfl, rfl, rfl, w3⟩ := open_int Tryd.underlying3 (hval 3 3 v3 rfl rfl) h3
  clear hA0 hval0 hsz0 hsz
  refine (Mine.AddrRules_row a0 a1 a2 a3 w0 w1 w2 w3 W henv).mono fun e W' ⟨he, bel⟩ => ?_
  subst he
  exact ⟨_, rfl, _, _, _, [], _, [], hW', trodAll_mk1 (shut_bool Tryd.underlying4 _), (trodAll_cons_mk (shut_int Tryd.underlying22 w0) (trodAll_cons_mk (shut_int Tryd.underlying22 w1) (trodAll_cons_mk (shut_int Tryd.underlying3 w2) (trodAll_cons_mk (shut_int Tryd.underlying3 w3) trodAll_mk0)))), rfl, bel.frame _, fun h => by cases h⟩
theorem said : Rows.AddrRulesSaid :=
  OpenClaim.holds_of_cond 10 Tryd.f10 rfl rfl rfl rfl rfl rfl rfl ⟨rfl, rfl, rfl, rfl, rfl⟩ rfl rfl rfl rfl rfl (by kernel_rfl) Tryd.func10 (by kernel_rfl)
    (of_decide_eq_true (by kernel_rfl)) (by unfold Func.isWrapper; first | (rw [if_pos (by decide +kernel)]; kernel_rfl) | (rw [if_neg (by decide +kernel)]; exact ⟨rfl, rfl⟩))
    (fun os started H enc _ F => by rw [OpenClaim.pre_eq_preRow]; exact lifted os started H enc F)
theorem plain (f : FuncId) (fn : Func) (hf : Tryd.pinned.checked.prog.funcNamed "signpost/signpostlaw1.AddrRules" = some f) (hfn : Tryd.pinned.checked.prog.funcs[f]? = some fn) :
    false = Tryd.pinned.checked.prog.looks [] ∧ ∀ (j : Nat) t, fn.params[j]? = some t → Tryd.pinned.checked.prog.wantsStandIn t = false := by
  obtain rfl : f = 10 := Option.some.inj ((show Tryd.prog.funcNamed "signpost/signpostlaw1.AddrRules" = some 10 by kernel_rfl).symm.trans hf) |>.symm
  obtain rfl : fn = Tryd.f10 := (Option.some.inj (Tryd.func10.symm.trans hfn)).symm
  refine ⟨by kernel_rfl, fun j t ht => ?_⟩
  rw [Tryd.params10] at ht
  rcases j with _ | _ | _ | _ | j
  · obtain rfl : 22 = t := by simpa using ht
    exact (show Tryd.prog.wantsStandIn 22 = false by kernel_rfl)
  · obtain rfl : 22 = t := by simpa using ht
    exact (show Tryd.prog.wantsStandIn 22 = false by kernel_rfl)
  · obtain rfl : 3 = t := by simpa using ht
    exact (show Tryd.prog.wantsStandIn 3 = false by kernel_rfl)
  · obtain rfl : 3 = t := by simpa using ht
    exact (show Tryd.prog.wantsStandIn 3 = false by kernel_rfl)
  · simp at ht
theorem card : Rows.AddrRulesCardSaid :=
  Claim7.holds_tied_plain_at .later [] _ _ _ _ said (fun _ h => by cases h) (by kernel_rfl) (fun _ h => by cases h) addrRules_row_tie rfl ⟨rfl, rfl⟩ (by kernel_rfl) rfl plain (by kernel_rfl)
end Go.Proofs.YtokfgajfkopelaaDoor.addrRules
namespace Go.Proofs.YtokfgajfkopelaaDoor
theorem addrRules_holds : Rows.AddrRulesCardSaid := addrRules.card
#print axioms addrRules_holds
end Go.Proofs.YtokfgajfkopelaaDoor
