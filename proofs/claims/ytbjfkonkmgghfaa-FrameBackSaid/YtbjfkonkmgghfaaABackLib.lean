/- Plain words of the law FrameBack: messages, one behind the other. -/
import Derived.Test.YtbjfkonkmgghfaaATells
import Derived.Test.YtbjfkonkmgghfaaASizes
namespace Go.Proofs.Ytbjfkonkmgghfaa.Mine
open Go.RowKit Go.Proofs.YtbjfkonkmgghfaaW.PrintWords Go.Proofs.YtbjfkonkmgghfaaW.PrintLast Go.Proofs.YtbjfkonkmgghfaaW.PrintMore
set_option linter.unusedVariables false
set_option linter.unusedSimpArgs false

/-- The ten bytes ahead of each body. -/
def lead : List Int := [1, 2, 3, 4, 5, 6, 7, 8, 9, 10]
def bB (l : Nat → List Int) (j : Nat) : List Int := lead ++ (l j).take 200
def bM (l : Nat → List Int) (j : Nat) : List Int := joined (1 + (j : Int) % 3) (bB l j)
def bAll (l : Nat → List Int) (k : Nat) : List Int := (List.range k).flatMap (bM l)
def bRest (l : Nat → List Int) (K i : Nat) : List Int := (List.range' i (K - i)).flatMap (bM l)

theorem bB_len (l : Nat → List Int) (j : Nat) : 10 ≤ (bB l j).length ∧ (bB l j).length ≤ 210 := by
  unfold bB lead
  simp only [List.length_append, List.length_take, List.length_cons, List.length_nil]
  omega
theorem bB_bytes {l : Nat → List Int} {j : Nat} (h : ∀ x ∈ l j, 0 ≤ x ∧ x ≤ 255) : ∀ x ∈ bB l j, 0 ≤ x ∧ x ≤ 255 := by
  intro x hx
  rcases List.mem_append.1 hx with hx | hx
  · have : ∀ x ∈ lead, 0 ≤ x ∧ x ≤ 255 := by decide
    exact this x hx
  · exact h x (List.mem_of_mem_take hx)
theorem bM_eq (l : Nat → List Int) (j : Nat) : joinedErr (1 + (j : Int) % 3) (bB l j) = 0 ∧ bM l j = ones16 ++ ([(19 + ((bB l j).length : Int)) / 256, (19 + ((bB l j).length : Int)) % 256, 1 + (j : Int) % 3] ++ bB l j) :=
  joined_head _ _ (by omega) (by omega) (by have := bB_len l j; omega) (bB l j) rfl
theorem bM_len (l : Nat → List Int) (j : Nat) : (bM l j).length = (bB l j).length + 19 := by
  rw [(bM_eq l j).2]
  simp [ones16]
theorem bM_bytes {l : Nat → List Int} {j : Nat} (h : ∀ x ∈ l j, 0 ≤ x ∧ x ≤ 255) : ∀ x ∈ bM l j, 0 ≤ x ∧ x ≤ 255 := joined_bytes _ _ (bB_bytes h)
theorem bAll_zero (l : Nat → List Int) : bAll l 0 = [] := rfl
theorem bAll_succ (l : Nat → List Int) (k : Nat) : bAll l (k + 1) = bAll l k ++ bM l k := by
  unfold bAll
  rw [List.range_succ, List.flatMap_append]
  simp
theorem bRest_zero (l : Nat → List Int) (K : Nat) : bRest l K 0 = bAll l K := by
  unfold bRest bAll
  rw [List.range_eq_range', Nat.sub_zero]
theorem bRest_end (l : Nat → List Int) (K : Nat) : bRest l K K = [] := by
  unfold bRest
  rw [Nat.sub_self]
  rfl
theorem bRest_step (l : Nat → List Int) (K i : Nat) (h : i < K) : bRest l K i = bM l i ++ bRest l K (i + 1) := by
  unfold bRest
  obtain ⟨d, rfl⟩ : ∃ d, K = i + 1 + d := ⟨K - (i + 1), by omega⟩
  rw [show i + 1 + d - i = d + 1 by omega, show i + 1 + d - (i + 1) = d by omega, List.range'_succ]
  rfl
theorem flat_len (l : Nat → List Int) (is : List Nat) : (is.flatMap (bM l)).length ≤ 229 * is.length := by
  induction is with
  | nil => simp
  | cons a is ih =>
    rw [List.flatMap_cons, List.length_append, List.length_cons, bM_len]
    have := bB_len l a
    omega
theorem bAll_len (l : Nat → List Int) (k : Nat) : (bAll l k).length ≤ 229 * k := by
  have := flat_len l (List.range k)
  rwa [List.length_range] at this
theorem bRest_len (l : Nat → List Int) (K i : Nat) : (bRest l K i).length ≤ 229 * K := by
  have := flat_len l (List.range' i (K - i))
  rw [List.length_range'] at this
  unfold bRest
  omega
theorem bRest_bytes {l : Nat → List Int} {K : Nat} (h : ∀ j, j < K → ∀ x ∈ l j, 0 ≤ x ∧ x ≤ 255) (i : Nat) : ∀ x ∈ bRest l K i, 0 ≤ x ∧ x ≤ 255 := by
  intro x hx
  obtain ⟨j, hj, hx⟩ := List.mem_flatMap.1 hx
  rw [List.mem_range'_1] at hj
  exact bM_bytes (h j (by omega)) x hx

/-- A message's head, and what lies behind it. -/
theorem split_head (a b kind : Int) (m : Nat) (hab : a * 256 + b = 19 + (m : Int)) (hm0 : 10 ≤ m) (hm : m ≤ 4077) (hk0 : 1 ≤ kind) (hk : kind ≤ 3) (Q : List Int) :
    splitF (ones16 ++ ([a, b, kind] ++ Q)) = if Q.length < m then (0, [], 0, 0, 0, []) else (kind, Q.take m, 19 + (m : Int), 0, 0, []) := by
  have hl : (ones16 ++ ([a, b, kind] ++ Q)).length = 19 + Q.length := by
    simp [ones16]
    omega
  have h16 : (ones16 ++ ([a, b, kind] ++ Q)).take 16 = ones16 := by
    rw [List.take_append_of_le_length (by simp [ones16])]
    rfl
  have g0 : (ones16 ++ ([a, b, kind] ++ Q)).getD 16 0 = a := rfl
  have g1 : (ones16 ++ ([a, b, kind] ++ Q)).getD 17 0 = b := rfl
  have g2 : (ones16 ++ ([a, b, kind] ++ Q)).getD 18 0 = kind := rfl
  have hd : (ones16 ++ ([a, b, kind] ++ Q)).drop 19 = Q := rfl
  unfold splitF
  rw [g0, g1, g2, hd, h16, hl, hab]
  rw [if_neg (by omega), if_neg (by simp), if_neg (by omega), if_neg (by omega), if_neg (by omega), if_neg (by omega)]
  rw [if_neg (by
    rcases (by omega : kind = 1 ∨ kind = 2 ∨ kind = 3) with rfl | rfl | rfl
    · simp; omega
    · simp; omega
    · simp; omega)]
  by_cases h : Q.length < m
  · rw [if_pos h, if_pos (by omega)]
  · rw [if_neg h, if_neg (by omega), show (19 + (m : Int) - 19).toNat = m by omega]
theorem split_msg (l : Nat → List Int) (j : Nat) (T : List Int) : splitF (bM l j ++ T) = (1 + (j : Int) % 3, bB l j, 19 + ((bB l j).length : Int), 0, 0, []) := by
  have := bB_len l j
  rw [(bM_eq l j).2, List.append_assoc, List.append_assoc, split_head _ _ _ (bB l j).length (by omega) (by omega) (by omega) (by omega) (by omega), if_neg (by rw [List.length_append]; omega), List.take_left]
theorem split_msg_part (l : Nat → List Int) (j : Nat) (T : List Int) (k : Nat) (hk : k ≤ (bB l j).length + 18) : splitF ((bM l j ++ T).take k) = (0, [], 0, 0, 0, []) := by
  have := bB_len l j
  by_cases h : k < 19
  · unfold splitF
    rw [if_pos (by rw [List.length_take]; omega)]
  · obtain ⟨q, rfl⟩ : ∃ q, k = 16 + (3 + q) := ⟨k - 19, by omega⟩
    rw [(bM_eq l j).2, List.append_assoc, List.append_assoc, show 16 + (3 + q) = ones16.length + (3 + q) from rfl, List.take_length_add_append]
    have e : ∀ (a b c : Int) (R : List Int), ([a, b, c] ++ R).take (3 + q) = [a, b, c] ++ R.take q := by
      intro a b c R
      rw [show 3 + q = [a, b, c].length + q from rfl, List.take_length_add_append]
    rw [e, split_head _ _ _ (bB l j).length (by omega) (by omega) (by omega) (by omega) (by omega), if_pos (by rw [List.length_take]; omega)]
end Go.Proofs.Ytbjfkonkmgghfaa.Mine
