/- Splitting and cutting at a byte, over lists; numbers' texts. No program in sight. -/
import Derived.Test.YtokfgajfkopelaaDoorBTextRef
namespace Go.Proofs.YtokfgajfkopelaaDoor.Mine
open Go.RowKit Go.Proofs.YtokfgajfkopelaaDoorW.PrintWords Go.Proofs.YtokfgajfkopelaaDoorW.PrintLast Go.Proofs.YtokfgajfkopelaaDoorW.PrintMore
set_option linter.unusedVariables false
set_option linter.unusedSimpArgs false

def splitC (c : UInt8) : List UInt8 → List (List UInt8)
  | [] => [[]]
  | x :: l => if x = c then [] :: splitC c l else (x :: (splitC c l).headD []) :: (splitC c l).tail
theorem splitC_ne (c : UInt8) : ∀ l, splitC c l ≠ []
  | [] => by simp [splitC]
  | x :: l => by unfold splitC; split <;> simp
theorem index_cons (c x : UInt8) (l : List UInt8) : Lib.index (x :: l) [c] = if x = c then 0 else if Lib.index l [c] = -1 then -1 else Lib.index l [c] + 1 := by
  show (if [c].isPrefixOf (x :: l) then (0 : Int) else if Lib.index l [c] == -1 then -1 else Lib.index l [c] + 1) = _
  by_cases h : x = c
  · subst h
    simp
  · have : ¬ c = x := fun e => h e.symm
    simp [h, this]
theorem splitK_count (c : UInt8) : ∀ (s : List UInt8) (k : Nat), k = s.count c → Lib.splitK [c] 0 k s = splitC c s
  | [], k, hk => by
    have : k = 0 := by simpa using hk
    subst this
    rfl
  | x :: l, k, hk => by
    by_cases h : x = c
    · subst h
      rw [List.count_cons_self] at hk
      subst hk
      have ih := splitK_count x l _ rfl
      unfold Lib.splitK splitC
      rw [index_cons, if_pos rfl, if_pos rfl]
      simp [ih]
    · rw [List.count_cons_of_ne (by simpa using h)] at hk
      have ih := splitK_count c l k hk
      have hi := Lib.index_ge l [c]
      cases k with
      | zero =>
        have e : splitC c l = [l] := by rw [← ih]; rfl
        unfold Lib.splitK splitC
        rw [if_neg h, e]
        rfl
      | succ k =>
        unfold Lib.splitK at ih ⊢
        unfold splitC
        rw [if_neg h, index_cons, if_neg h]
        by_cases hm : Lib.index l [c] = -1
        · rw [hm] at ih ⊢
          simp at ih ⊢
          rw [← ih]
          simp
        · have hb : ¬ (Lib.index l [c] == -1) = true := by simpa using hm
          rw [if_neg hb] at ih
          rw [if_neg hm]
          have hb2 : ¬ (Lib.index l [c] + 1 == -1) = true := by simp; omega
          rw [if_neg hb2, ← ih]
          have e1 : (Lib.index l [c] + 1).toNat = (Lib.index l [c]).toNat + 1 := by omega
          rw [e1]
          simp
theorem split_eq (s : ByteArray) (c : UInt8) : (Lib.splitB ⟨#[c]⟩ 0 (Lib.countB s ⟨#[c]⟩) s).map (·.data.toList) = splitC c s.data.toList := by
  rw [Lib.splitB_data]
  exact splitK_count c _ _ (Lib.count_one c _)
theorem splitC_app (c : UInt8) : ∀ (p q : List UInt8), c ∉ p → splitC c (p ++ c :: q) = p :: splitC c q
  | [], q, h => by simp [splitC]
  | x :: p, q, h => by
    have hx : ¬ x = c := fun e => h (by simp [e])
    have ih := splitC_app c p q (fun e => h (by simp [e]))
    show (if x = c then [] :: splitC c (p ++ c :: q) else (x :: (splitC c (p ++ c :: q)).headD []) :: (splitC c (p ++ c :: q)).tail) = _
    rw [if_neg hx, ih]
    rfl
theorem splitC_one (c : UInt8) : ∀ (p : List UInt8), c ∉ p → splitC c p = [p]
  | [], h => rfl
  | x :: p, h => by
    have hx : ¬ x = c := fun e => h (by simp [e])
    unfold splitC
    rw [if_neg hx, splitC_one c p (fun e => h (by simp [e]))]
    rfl
def joinC (c : UInt8) : List (List UInt8) → List UInt8
  | [] => []
  | [x] => x
  | x :: y :: l => x ++ c :: joinC c (y :: l)
theorem joinC_head (c x : UInt8) (p : List UInt8) : ∀ l, joinC c ((x :: p) :: l) = x :: joinC c (p :: l)
  | [] => rfl
  | _ :: _ => rfl
theorem join_splitC (c : UInt8) : ∀ s, joinC c (splitC c s) = s
  | [] => rfl
  | x :: l => by
    have ih := join_splitC c l
    unfold splitC
    obtain ⟨p, r, hp⟩ : ∃ p r, splitC c l = p :: r := by
      cases h : splitC c l with
      | nil => exact absurd h (splitC_ne c l)
      | cons p r => exact ⟨p, r, rfl⟩
    rw [hp] at ih ⊢
    by_cases h : x = c
    · rw [if_pos h]
      show c :: joinC c (p :: r) = _
      rw [ih, h]
    · rw [if_neg h]
      show joinC c ((x :: p) :: r) = _
      rw [joinC_head, ih]
theorem cut_c (c : UInt8) : ∀ s, (Lib.index s [c] = -1 ∧ c ∉ s) ∨ ∃ p q, s = p ++ c :: q ∧ c ∉ p ∧ Lib.index s [c] = (p.length : Int)
  | [] => .inl ⟨rfl, by simp⟩
  | x :: l => by
    rw [index_cons]
    by_cases h : x = c
    · exact .inr ⟨[], l, by simp [h], by simp, by rw [if_pos h]; rfl⟩
    · have hn : ¬ c = x := fun e => h e.symm
      rcases cut_c c l with ⟨hi, hm⟩ | ⟨p, q, rfl, hp, hi⟩
      · exact .inl ⟨by rw [if_neg h, if_pos hi], by simp [hm, hn]⟩
      · refine .inr ⟨x :: p, q, rfl, by simp [hp, hn], ?_⟩
        rw [if_neg h, hi, if_neg (by omega)]
        simp
theorem cut_hit (c : UInt8) (p q : List UInt8) (h : c ∉ p) : Lib.cut (p ++ c :: q) [c] = (p, q, true) := by
  rcases cut_c c (p ++ c :: q) with ⟨_, hm⟩ | ⟨p2, q2, he, hp, hi⟩
  · exact absurd (by simp) hm
  · have e : p = p2 ∧ q = q2 := by
      have h1 := congrArg (splitC c) he
      rw [splitC_app c p q h, splitC_app c p2 q2 hp] at h1
      injection h1 with h1 h2
      subst h1
      exact ⟨rfl, by simpa using he⟩
    obtain ⟨rfl, rfl⟩ := e
    unfold Lib.cut
    rw [hi, if_pos (by omega)]
    simp
theorem cut_miss (c : UInt8) (s : List UInt8) (h : c ∉ s) : Lib.cut s [c] = (s, [], false) := by
  rcases cut_c c s with ⟨hi, _⟩ | ⟨p2, q2, rfl, hp, hi⟩
  · unfold Lib.cut
    rw [hi]
    rfl
  · exact absurd (by simp) h

/-! Numbers' texts -/
theorem dec_no (c : UInt8) (hc : c = 46 ∨ c = 47) (x : Int) (h0 : 0 ≤ x) (h1 : x ≤ 255) : c ∉ Lib.itoa x := by
  have h : ∀ j, j < 256 → (46 : UInt8) ∉ Lib.itoa ((j : Nat) : Int) ∧ (47 : UInt8) ∉ Lib.itoa ((j : Nat) : Int) := by decide +kernel
  obtain ⟨j, rfl⟩ := Int.eq_ofNat_of_zero_le h0
  have := h j (by omega)
  rcases hc with rfl | rfl
  · exact this.1
  · exact this.2
theorem numP_dec255 (x : Int) (h0 : 0 ≤ x) (h1 : x ≤ 255) : numP (decS x) 255 = x := by
  have h : ∀ j, j < 256 → numP (decS ((j : Nat) : Int)) 255 = ((j : Nat) : Int) := by decide +kernel
  obtain ⟨j, rfl⟩ := Int.eq_ofNat_of_zero_le h0
  exact h j (by omega)
theorem numP_dec32 (x : Int) (h0 : 0 ≤ x) (h1 : x ≤ 32) : numP (decS x) 32 = x := by
  have h : ∀ j, j < 33 → numP (decS ((j : Nat) : Int)) 32 = ((j : Nat) : Int) := by decide +kernel
  obtain ⟨j, rfl⟩ := Int.eq_ofNat_of_zero_le h0
  exact h j (by omega)
theorem numL_over (most : Int) (l : List UInt8) (n : Int) (h : n > most) : numL most l n = n ∧ l = [] ∨ numL most l n = -1 := by
  cases l with
  | nil => exact .inl ⟨rfl, rfl⟩
  | cons c l =>
    right
    unfold numL
    split
    · rfl
    · split
      · rfl
      · first | rfl | rw [if_pos h]
theorem dec_digits (a : UInt8) (h0 : ¬ a.toNat < 48) (h1 : ¬ 57 < a.toNat) : UInt8.ofNat (48 + (a.toNat - 48)) = a := by
  have : 48 + (a.toNat - 48) = a.toNat := by omega
  rw [this]
  exact UInt8.ofNat_toNat
theorem numP_inv (s : ByteArray) (most : Int) (m0 : 0 ≤ most) (m1 : most ≤ 255) (h : 0 ≤ numP s most) : numP s most ≤ most ∧ s = decS (numP s most) := by
  obtain ⟨l, hl⟩ : ∃ l, s.data.toList = l := ⟨_, rfl⟩
  have hs : s = ⟨l.toArray⟩ := by apply ByteArray.ext; rw [← hl]
  have hsz : s.size = l.length := by rw [hs]; simp [ByteArray.size]
  have hbt : bt s 0 = (l.headD 0).toNat := by
    cases l with
    | nil => rw [hs]; rfl
    | cons a r => rw [hs]; rfl
  have hmore : s.toList = [] ↔ l = [] := by rw [hs, ByteArray.toList_mk]
  have hN : ∀ x, numEnd s most x = if l = [] then -1 else if x > most then -1 else if 1 < l.length ∧ ((l.headD 0).toNat : Int) = 48 then -1 else x := by
    intro x
    unfold numEnd
    rw [hsz, hbt]
    by_cases he : l = []
    · rw [if_pos he, if_pos (hmore.2 he)]
    · rw [if_neg he, if_neg (fun e => he (hmore.1 e))]
  have hd : ∀ v : Nat, Lib.decDigits v = l → (0 ≤ (v : Int)) → decS (v : Int) = s := by
    intro v hv _
    rw [hs]
    unfold decS Lib.itoa
    rw [if_neg (by omega), Int.toNat_natCast, hv]
  unfold numP at h ⊢
  rw [hl] at h ⊢
  rw [hN] at h ⊢
  by_cases he : l = []
  · rw [if_pos he] at h; omega
  rw [if_neg he] at h ⊢
  by_cases h2 : numL most l 0 > most
  · rw [if_pos h2] at h; omega
  rw [if_neg h2] at h ⊢
  by_cases h3 : 1 < l.length ∧ ((l.headD 0).toNat : Int) = 48
  · rw [if_pos h3] at h; omega
  rw [if_neg h3] at h ⊢
  refine ⟨by omega, ?_⟩
  symm
  match l, he with
  | [a], _ =>
    unfold numL at h ⊢
    by_cases a0 : a.toNat < 48
    · rw [if_pos a0] at h; omega
    by_cases a1 : 57 < a.toNat
    · rw [if_neg a0, if_pos a1] at h; omega
    rw [if_neg a0, if_neg a1, if_neg (by omega)] at h ⊢
    unfold numL at h ⊢
    have e : (10 * 0 + ((a.toNat : Int) - 48)) = ((a.toNat - 48 : Nat) : Int) := by omega
    rw [e]
    refine hd _ ?_ (by omega)
    rw [Lib.decDigits, dif_pos (by omega), dec_digits a a0 a1]
  | [a, b], _ =>
    have hz : ¬ (a.toNat : Int) = 48 := fun e => h3 ⟨by simp, by simpa using e⟩
    unfold numL at h h2 ⊢
    by_cases a0 : a.toNat < 48
    · rw [if_pos a0] at h; omega
    by_cases a1 : 57 < a.toNat
    · rw [if_neg a0, if_pos a1] at h; omega
    rw [if_neg a0, if_neg a1, if_neg (by omega)] at h h2 ⊢
    unfold numL at h h2 ⊢
    by_cases b0 : b.toNat < 48
    · rw [if_pos b0] at h; omega
    by_cases b1 : 57 < b.toNat
    · rw [if_neg b0, if_pos b1] at h; omega
    rw [if_neg b0, if_neg b1] at h h2 ⊢
    split at h
    · omega
    rename_i g1
    rw [if_neg g1] at h2 ⊢
    unfold numL at h ⊢
    have e : (10 * (10 * 0 + ((a.toNat : Int) - 48)) + ((b.toNat : Int) - 48)) = ((10 * (a.toNat - 48) + (b.toNat - 48) : Nat) : Int) := by omega
    rw [e]
    refine hd _ ?_ (by omega)
    rw [Lib.decDigits, dif_neg (by omega), show (10 * (a.toNat - 48) + (b.toNat - 48)) / 10 = a.toNat - 48 by omega, show (10 * (a.toNat - 48) + (b.toNat - 48)) % 10 = b.toNat - 48 by omega, Lib.decDigits, dif_pos (by omega), dec_digits a a0 a1, dec_digits b b0 b1]
    rfl
  | [a, b, c], _ =>
    have hz : ¬ (a.toNat : Int) = 48 := fun e => h3 ⟨by simp, by simpa using e⟩
    unfold numL at h h2 ⊢
    by_cases a0 : a.toNat < 48
    · rw [if_pos a0] at h; omega
    by_cases a1 : 57 < a.toNat
    · rw [if_neg a0, if_pos a1] at h; omega
    rw [if_neg a0, if_neg a1, if_neg (by omega)] at h h2 ⊢
    unfold numL at h h2 ⊢
    by_cases b0 : b.toNat < 48
    · rw [if_pos b0] at h; omega
    by_cases b1 : 57 < b.toNat
    · rw [if_neg b0, if_pos b1] at h; omega
    rw [if_neg b0, if_neg b1] at h h2 ⊢
    split at h
    · omega
    rename_i g1
    rw [if_neg g1] at h2 ⊢
    unfold numL at h h2 ⊢
    by_cases c0 : c.toNat < 48
    · rw [if_pos c0] at h; omega
    by_cases c1 : 57 < c.toNat
    · rw [if_neg c0, if_pos c1] at h; omega
    rw [if_neg c0, if_neg c1] at h h2 ⊢
    split at h
    · omega
    rename_i g2
    rw [if_neg g2] at h2 ⊢
    unfold numL at h ⊢
    have e : (10 * (10 * (10 * 0 + ((a.toNat : Int) - 48)) + ((b.toNat : Int) - 48)) + ((c.toNat : Int) - 48)) = ((10 * (10 * (a.toNat - 48) + (b.toNat - 48)) + (c.toNat - 48) : Nat) : Int) := by omega
    rw [e]
    refine hd _ ?_ (by omega)
    rw [Lib.decDigits, dif_neg (by omega), show (10 * (10 * (a.toNat - 48) + (b.toNat - 48)) + (c.toNat - 48)) / 10 = 10 * (a.toNat - 48) + (b.toNat - 48) by omega, show (10 * (10 * (a.toNat - 48) + (b.toNat - 48)) + (c.toNat - 48)) % 10 = c.toNat - 48 by omega, Lib.decDigits, dif_neg (by omega), show (10 * (a.toNat - 48) + (b.toNat - 48)) / 10 = a.toNat - 48 by omega, show (10 * (a.toNat - 48) + (b.toNat - 48)) % 10 = b.toNat - 48 by omega, Lib.decDigits, dif_pos (by omega), dec_digits a a0 a1, dec_digits b b0 b1, dec_digits c c0 c1]
    rfl
  | a :: b :: c :: d :: r, _ =>
    exfalso
    have hz : ¬ (a.toNat : Int) = 48 := fun e => h3 ⟨by simp, by simpa using e⟩
    unfold numL at h h2
    by_cases a0 : a.toNat < 48
    · rw [if_pos a0] at h; omega
    by_cases a1 : 57 < a.toNat
    · rw [if_neg a0, if_pos a1] at h; omega
    rw [if_neg a0, if_neg a1, if_neg (by omega)] at h h2
    unfold numL at h h2
    by_cases b0 : b.toNat < 48
    · rw [if_pos b0] at h; omega
    by_cases b1 : 57 < b.toNat
    · rw [if_neg b0, if_pos b1] at h; omega
    rw [if_neg b0, if_neg b1] at h h2
    split at h
    · omega
    rename_i g1
    rw [if_neg g1] at h2
    unfold numL at h h2
    by_cases c0 : c.toNat < 48
    · rw [if_pos c0] at h; omega
    by_cases c1 : 57 < c.toNat
    · rw [if_neg c0, if_pos c1] at h; omega
    rw [if_neg c0, if_neg c1] at h h2
    split at h
    · omega
    rename_i g2
    rw [if_neg g2] at h2
    unfold numL at h h2
    by_cases d0 : d.toNat < 48
    · rw [if_pos d0] at h; omega
    by_cases d1 : 57 < d.toNat
    · rw [if_neg d0, if_pos d1] at h; omega
    rw [if_neg d0, if_neg d1] at h h2
    split at h
    · omega
    rename_i g3
    rw [if_neg g3] at h2
    rcases numL_over most r (10 * (10 * (10 * (10 * 0 + ((a.toNat : Int) - 48)) + ((b.toNat : Int) - 48)) + ((c.toNat : Int) - 48)) + ((d.toNat : Int) - 48)) (by omega) with ⟨e, _⟩ | e
    · omega
    · omega
end Go.Proofs.YtokfgajfkopelaaDoor.Mine
