/- The document's Join and Split (printed functions of PFrameTells) say what mine say; contracts in my form. -/
import Derived.Test.YtbjfkonkmgghfaaASplit
import Derived.Test.YtbjfkonkmgghfaaPFrameTellsx1
import Derived.Test.YtbjfkonkmgghfaaPFrameTellsx2
import Derived.Test.YtbjfkonkmgghfaaALib2
namespace Go.Proofs.Ytbjfkonkmgghfaa.Mine
open Go.RowKit Go.Proofs.YtbjfkonkmgghfaaW.PrintWords Go.Proofs.YtbjfkonkmgghfaaW.PrintLast Go.Proofs.YtbjfkonkmgghfaaW.PrintMore
open Go.Proofs.Ytbjfkonkmgghfaa.PFrameTells
set_option linter.unusedVariables false
set_option linter.unusedSimpArgs false

theorem wrap64_in (a : Int) (h0 : -9223372036854775808 ≤ a) (h1 : a ≤ 9223372036854775807) : wrap64 a = a := by unfold wrap64; omega

theorem refJoin_l0 (x0 : Int) (x1 : List Int) (x6 : Int) (hl : x1.length ≤ 4077) (d : Nat) : ∀ (k i : Nat), i + d = 16 → d < k →
    signpostref5_Join.l0 k x0 x1 x6 (List.replicate i 255) (i : Int) = some (ones16 ++ ([(x6 / 256) % 256, x6 % 256, x0 % 256] ++ x1), 0) := by
  induction d with
  | zero =>
    intro k i hi hk
    obtain ⟨k, rfl⟩ : ∃ m, k = m + 1 := ⟨k - 1, by omega⟩
    obtain rfl : i = 16 := by omega
    simp only [signpostref5_Join.l0]
    rw [if_neg (by omega)]
    simp only [Option.bind_some]
    rw [if_pos (by simp), if_pos (by simp; omega)]
    simp [ones16]
  | succ d ih =>
    intro k i hi hk
    obtain ⟨k, rfl⟩ : ∃ m, k = m + 1 := ⟨k - 1, by omega⟩
    simp only [signpostref5_Join.l0]
    rw [if_pos (by omega), if_pos (by simp; omega), wrap64_in _ (by omega) (by omega), show (i : Int) + 1 = ((i + 1 : Nat) : Int) by omega, ← List.replicate_succ']
    exact ih k (i + 1) (by omega) (by omega)

theorem head19_eq (kind : Int) (n : Nat) : head19 kind n = ones16 ++ [(19 + (n : Int)) / 256 % 256, (19 + (n : Int)) % 256, kind % 256] := by
  simp [head19, bePart, beByte, List.range_succ]

theorem refJoin_f (kind : Int) (body : List Int) (hl : body.length ≤ 140737488355328) : signpostref5_Join.f 20 kind body = some (joined kind body, joinedErr kind body) := by
  have hw : wrap64 ((body.length : Int) + 19) = body.length + 19 := wrap64_in _ (by omega) (by omega)
  unfold signpostref5_Join.f joined joinedErr
  by_cases h1 : kind < 1
  · rw [if_pos h1, if_pos h1, if_pos h1]; simp only [signpostref5_Join.j0, if_true]
  rw [if_neg h1, if_neg h1, if_neg h1]
  by_cases h2 : 4 < kind
  · rw [if_pos h2, if_pos h2, decide_eq_true (show kind > 4 from h2)]; simp only [signpostref5_Join.j0, if_true]
  rw [if_neg h2, if_neg h2, decide_eq_false (show ¬ kind > 4 from h2)]
  simp only [signpostref5_Join.j0, Bool.false_eq_true, if_false]
  rw [hw]
  by_cases h3 : 4077 < body.length
  · rw [if_pos (by omega), if_pos h3, if_pos h3]
  · rw [if_neg (by omega), if_neg h3, if_neg h3]
    have := refJoin_l0 kind body ((body.length : Int) + 19) (by omega) 16 19 0 (by omega) (by omega)
    rw [List.replicate_zero] at this
    rw [show ((0 : Nat) : Int) = 0 from rfl] at this
    rw [this, head19_eq, List.append_assoc, show (19 + (body.length : Int)) = (body.length : Int) + 19 by omega]

theorem refJoin_any (kind : Int) (A : Option Addr) (n c : Nat) (body : List Int) (w : World) (hc : Kd.C (Kd.int .u8) w A n body) (hnc : n ≤ c) (hl : n ≤ 140737488355328) :
    Calls Try.prog 9 #[.int .i64 kind, .slice A n c] w fun e w' => ∃ v : Value, e = .returned (.tuple #[v, .int .i64 (joinedErr kind body)]) ∧ Kd.R (Kd.int .u8) 5 w' w.heap.size (fun _ => True) v (joined kind body) ∧ Below w.heap.size w w' := by
  obtain rfl : body.length = n := hc.1
  exact signpostref5_Join.calls 20 kind A c body _ _ w hc hnc (refJoin_f kind body hl)

theorem take16 (l : List Int) (hl : 16 ≤ l.length) : l.take 16 = ones16 ↔ ∀ j, j < 16 → l.getD j 0 = 255 := by
  constructor
  · intro h j hj
    have h2 := congrArg (fun l => l.getD j 0) h
    simp only [List.getD, List.getElem?_take, if_pos hj] at h2
    have h3 : ones16[j]? = some 255 := by unfold ones16; rw [List.getElem?_replicate, if_pos hj]
    rw [h3] at h2
    simpa [List.getD] using h2
  · intro h
    apply List.ext_getElem
    · simp [ones16]; omega
    · intro j h1 h2
      have hj : j < 16 := by simp at h1; omega
      have := h j hj
      rw [getD_at l j 0 (by omega)] at this
      rw [List.getElem_take, this]
      exact (List.getElem_replicate h2).symm

theorem refSplit_tail (k : Nat) (l : List Int) (hl : l.length ≤ 140737488355327) (h19 : 19 ≤ l.length) (hbyte : ∀ x ∈ l, 0 ≤ x ∧ x ≤ 255) (hm : l.take 16 = ones16) (hk : 5 ≤ k) : signpostref5_Split.l0 k l 16 = some (splitF l) := by
  obtain ⟨k, rfl⟩ : ∃ m, k = m + 5 := ⟨k - 5, by omega⟩
  have hb := fun j (hj : j < l.length) => hbyte _ (List.getElem_mem hj)
  have ra : rd l 16 = l.getD 16 0 := rfl
  have rb : rd l 17 = l.getD 17 0 := rfl
  have rk : rd l 18 = l.getD 18 0 := rfl
  obtain ⟨a, ha⟩ : ∃ a, l.getD 16 0 = a := ⟨_, rfl⟩
  obtain ⟨b, hbb⟩ : ∃ b, l.getD 17 0 = b := ⟨_, rfl⟩
  obtain ⟨q, hq⟩ : ∃ q, l.getD 18 0 = q := ⟨_, rfl⟩
  have a0 := hb 16 (by omega)
  have b0 := hb 17 (by omega)
  have q0 := hb 18 (by omega)
  rw [← getD_at l 16 0 (by omega), ha] at a0
  rw [← getD_at l 17 0 (by omega), hbb] at b0
  rw [← getD_at l 18 0 (by omega), hq] at q0
  have HSplit : splitF l = splitG l a b q := by unfold splitF splitG; rw [if_neg (by omega), ha, hbb, hq]
  rw [HSplit]
  unfold splitG
  rw [if_neg (fun h => h hm)]
  simp only [signpostref5_Split.l0]
  rw [if_neg (by omega), if_pos (by omega), if_pos (by omega), if_pos (by omega), ra, rb, rk, ha, hbb, hq]
  simp only [Option.bind_some]
  rw [wrap64_in a (by omega) (by omega), wrap64_in b (by omega) (by omega), wrap64_in (a * 256) (by omega) (by omega), wrap64_in q (by omega) (by omega), or_bytes a b a0.1 a0.2 b0.1 b0.2]
  obtain ⟨n, hn⟩ : ∃ n, a * 256 + b = n := ⟨_, rfl⟩
  have n0 : 0 ≤ n := by omega
  have n1 : n ≤ 65535 := by omega
  rw [hn]
  by_cases c2 : n < 19
  · rw [if_pos c2, if_pos c2]; simp only [signpostref5_Split.j1, if_true]
  rw [if_neg c2, if_neg c2]
  by_cases c3 : 4096 < n
  · rw [if_pos c3, decide_eq_true (show n > 4096 from c3)]; simp only [signpostref5_Split.j1, if_true]
  rw [if_neg c3, decide_eq_false (show ¬ n > 4096 from c3)]
  simp only [signpostref5_Split.j1, Bool.false_eq_true, if_false]
  by_cases c4 : q < 1
  · rw [if_pos c4, if_pos c4]; simp only [signpostref5_Split.j2, if_true]; rw [if_pos (by omega), rk, hq]
  rw [if_neg c4, if_neg c4]
  by_cases c5 : 4 < q
  · rw [if_pos c5, decide_eq_true (show q > 4 from c5)]; simp only [signpostref5_Split.j2, if_true]; rw [if_pos (by omega), rk, hq]
  rw [if_neg c5, decide_eq_false (show ¬ q > 4 from c5)]
  have htake : (l.take n.toNat).drop 19 = (l.drop 19).take (n - 19).toNat := by
    rw [List.drop_take]; congr 1; omega
  have fin : ∀ m, signpostref5_Split.j4 (m + 1) l n q false 1 2 [a, b] = some (if (l.length : Int) < n then (0, [], 0, 0, 0, []) else (q, (l.drop 19).take (n - 19).toNat, n, 0, 0, [])) := by
    intro m
    simp only [signpostref5_Split.j4, Bool.false_eq_true, if_false]
    by_cases c6 : (l.length : Int) < n
    · rw [if_pos c6, if_pos c6]
    · rw [if_neg c6, if_neg c6]
      simp only [Option.bind_some]
      rw [if_pos (by omega), if_pos (by omega), if_pos (by rw [List.length_drop, List.length_take]; simp; omega), List.nil_append, htake]
  have bad : ∀ m, signpostref5_Split.j4 (m + 1) l n q true 1 2 [a, b] = some (0, [], 0, 1, 2, [a, b]) := by
    intro m
    simp only [signpostref5_Split.j4, if_true]
  simp only [signpostref5_Split.j2, Bool.false_eq_true, if_false]
  obtain ⟨F, hF⟩ : ∃ F, (if q = 1 then decide (29 ≤ n) else if q = 2 then decide (23 ≤ n) else if q = 3 then decide (21 ≤ n) else (n == 19)) = F := ⟨_, rfl⟩
  rw [hF]
  by_cases e1 : q = 1
  · subst e1
    rw [if_pos rfl]
    simp only [signpostref5_Split.j3]
    by_cases c : n < 29
    · rw [if_pos c, bad, if_pos (by rw [← hF]; simp; omega)]
    · have hT : F = true := by rw [← hF]; simp; omega
      rw [if_neg c, if_neg (by omega), fin, hT, if_neg (show ¬ true = false by decide)]
  rw [if_neg e1]
  by_cases e2 : q = 2
  · subst e2
    rw [if_pos rfl]
    simp only [signpostref5_Split.j3]
    by_cases c : n < 23
    · rw [if_pos c, bad, if_pos (by rw [← hF]; simp; omega)]
    · have hT : F = true := by rw [← hF]; simp; omega
      rw [if_neg c, if_neg (by omega), fin, hT, if_neg (show ¬ true = false by decide)]
  rw [if_neg e2]
  by_cases e3 : q = 3
  · subst e3
    rw [if_pos rfl]
    simp only [signpostref5_Split.j3]
    by_cases c : n < 21
    · rw [if_pos c, bad, if_pos (by rw [← hF]; simp; omega)]
    · have hT : F = true := by rw [← hF]; simp; omega
      rw [if_neg c, if_neg (by omega), fin, hT, if_neg (show ¬ true = false by decide)]
  rw [if_neg e3]
  obtain rfl : q = 4 := by omega
  simp only [signpostref5_Split.j3]
  rw [if_neg c2, if_pos trivial]
  by_cases c : n = 19
  · have hT : F = true := by rw [← hF]; simp [c]
    rw [show (n != 19) = false by simp [c], fin, hT, if_neg (show ¬ true = false by decide)]
  · rw [show (n != 19) = true by simpa using c, bad, if_pos (by rw [← hF]; simp; exact c)]

theorem refSplit_l0 (l : List Int) (hl : l.length ≤ 140737488355327) (h19 : 19 ≤ l.length) (hbyte : ∀ x ∈ l, 0 ≤ x ∧ x ≤ 255) (d : Nat) : ∀ (k i : Nat), i + d = 16 → d + 5 ≤ k → (∀ j, j < i → l.getD j 0 = 255) →
    signpostref5_Split.l0 k l (i : Int) = some (splitF l) := by
  induction d with
  | zero =>
    intro k i hi hk h
    obtain rfl : i = 16 := by omega
    exact refSplit_tail k l hl h19 hbyte ((take16 l (by omega)).2 h) (by omega)
  | succ d ih =>
    intro k i hi hk h
    obtain ⟨k, rfl⟩ : ∃ m, k = m + 1 := ⟨k - 1, by omega⟩
    simp only [signpostref5_Split.l0]
    rw [if_pos (by omega), if_pos (by omega), if_pos (by omega)]
    have hr : rd l (i : Int) = l.getD i 0 := by simp [rd]
    rw [hr]
    by_cases c : l.getD i 0 = 255
    · rw [if_pos c, wrap64_in _ (by omega) (by omega), show (i : Int) + 1 = ((i + 1 : Nat) : Int) by omega]
      exact ih k (i + 1) (by omega) (by omega) (fun j hj => by
        rcases Nat.lt_or_ge j i with h1 | h1
        · exact h j h1
        · obtain rfl : j = i := by omega
          exact c)
    · rw [if_neg c]
      unfold splitF
      rw [if_neg (by omega), if_pos (fun h2 => c ((take16 l (by omega)).1 h2 i (by omega)))]

theorem refSplit_f (l : List Int) (hl : l.length ≤ 140737488355327) (hbyte : ∀ x ∈ l, 0 ≤ x ∧ x ≤ 255) : signpostref5_Split.f 21 l = some (splitF l) := by
  unfold signpostref5_Split.f
  by_cases h : l.length < 19
  · rw [if_pos (by omega)]; unfold splitF; rw [if_pos h]
  · rw [if_neg (by omega)]
    exact refSplit_l0 l hl (by omega) hbyte 16 21 0 (by omega) (by omega) (fun j hj => by omega)

theorem refSplit_any (A : Option Addr) (n c : Nat) (l : List Int) (w : World) (hc : Kd.C (Kd.int .u8) w A n l) (hnc : n ≤ c) (hbyte : ∀ x ∈ l, 0 ≤ x ∧ x ≤ 255) (hl : n ≤ 140737488355327) :
    Calls Try.prog 22 #[.slice A n c] w (SplitPost w (splitF l)) := by
  obtain rfl : l.length = n := hc.1
  refine (signpostref5_Split.calls 21 A c l _ _ _ _ _ _ w hc hnc (refSplit_f l hl hbyte)).mono ?_
  rintro e w' ⟨v1, v5, he, h1, h5, hb⟩
  exact ⟨v1, v5, he, Kd.R_mono h1 (fun _ _ => trivial), Kd.R_mono h5 (fun _ _ => trivial), hb⟩
end Go.Proofs.Ytbjfkonkmgghfaa.Mine
