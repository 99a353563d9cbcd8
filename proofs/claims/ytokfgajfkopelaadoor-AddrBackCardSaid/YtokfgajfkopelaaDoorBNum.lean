/- What a number's text says, and addr.Parse, in plain words. -/
import Derived.Test.YtokfgajfkopelaaDoorBParse
namespace Go.Proofs.YtokfgajfkopelaaDoor.Mine
open Go.RowKit Go.Proofs.YtokfgajfkopelaaDoorW.PrintWords Go.Proofs.YtokfgajfkopelaaDoorW.PrintLast Go.Proofs.YtokfgajfkopelaaDoorW.PrintMore
set_option linter.unusedVariables false
set_option linter.unusedSimpArgs false

def numL (most : Int) : List UInt8 → Int → Int
  | [], n => n
  | c :: l, n => if c.toNat < 48 then -1 else if 57 < c.toNat then -1 else if n > most then -1 else numL most l (10 * n + ((c.toNat : Int) - 48))
def numEnd (s : ByteArray) (most n : Int) : Int := if s.toList = [] then -1 else if n > most then -1 else if 1 < s.size ∧ bt s 0 = 48 then -1 else n
def numP (s : ByteArray) (most : Int) : Int := numEnd s most (numL most s.data.toList 0)

theorem bt_get (s : ByteArray) (i : Nat) (h : i < s.size) : bt s i = ((s.data.toList[i]'(by simpa using h)).toNat : Int) := by
  have := bt_at s (i : Int) (by simpa using h)
  rw [← this]
  simp
  rfl
theorem numEnd_none (s : ByteArray) (most : Int) (hm : 0 ≤ most) : numEnd s most (-1) = -1 := by
  unfold numEnd
  split
  · rfl
  · split
    · rfl
    · split <;> rfl
theorem number_l (s : ByteArray) (most : Int) (m0 : 0 ≤ most) (m1 : most ≤ 255) (hs : s.size < 4294967296) : ∀ (d k i : Nat) (n : Int), i + d = s.size → d < k → 0 ≤ n → n ≤ 10 * most + 9 →
    BP.addr_number.l0 k s most n (s.size : Int) i = some (numEnd s most (numL most (s.data.toList.drop i) n)) := by
  intro d
  induction d with
  | zero =>
    intro k i n hi hk n0 n1
    obtain ⟨k, rfl⟩ : ∃ j, k = j + 1 := ⟨k - 1, by omega⟩
    have hl : s.data.toList.drop i = [] := List.drop_eq_nil_of_le (by simp; have : s.data.size = s.size := rfl; omega)
    rw [hl]
    simp only [BP.addr_number.l0]
    rw [if_neg (by omega)]
    unfold numL numEnd
    by_cases he : s.toList = []
    · rw [if_pos he, if_pos he]
    · rw [if_neg he, if_neg he]
      by_cases hn : n > most
      · rw [if_pos hn, if_pos hn]
      · rw [if_neg hn, if_neg hn]
        by_cases hz : (s.size : Int) > 1
        · rw [if_pos hz, if_pos (by omega)]
          by_cases hb : bt s 0 = 48
          · rw [if_pos hb, if_pos ⟨by omega, hb⟩]
          · rw [if_neg hb, if_neg (fun h => hb h.2)]
        · rw [if_neg hz, if_neg (by omega)]
  | succ d ih =>
    intro k i n hi hk n0 n1
    obtain ⟨k, rfl⟩ : ∃ j, k = j + 1 := ⟨k - 1, by omega⟩
    have hlt : i < s.size := by omega
    have hb := bt_get s i hlt
    rw [List.drop_eq_getElem_cons (by simpa using hlt)]
    obtain ⟨c, hc⟩ : ∃ c, s.data.toList[i]'(by simpa using hlt) = c := ⟨_, rfl⟩
    rw [hc] at hb ⊢
    simp only [BP.addr_number.l0, numL]
    rw [if_pos (by omega), if_pos (by omega), if_pos (by omega), hb]
    by_cases h1 : c.toNat < 48
    · rw [if_pos (by omega), if_pos h1, numEnd_none s most m0]
    · rw [if_neg (by omega), if_neg h1]
      by_cases h2 : 57 < c.toNat
      · rw [if_pos (by omega), if_pos h2, numEnd_none s most m0]
      · rw [if_neg (by omega), if_neg h2]
        by_cases h3 : n > most
        · rw [if_pos h3, if_pos h3, numEnd_none s most m0]
        · rw [if_neg h3, if_neg h3, wrap64_id (10 * n) (by omega) (by omega), show ((c.toNat : Int) - 48) % 256 = (c.toNat : Int) - 48 by omega, wrap64_id _ (by omega) (by omega), wrap64_id _ (by omega) (by omega)]
          exact ih k (i + 1) _ (by omega) (by omega) (by omega) (by omega)
theorem number_f (k : Nat) (s : ByteArray) (most : Int) (hk : s.size < k) (m0 : 0 ≤ most) (m1 : most ≤ 255) (hs : s.size < 4294967296) : BP.addr_number.f k s most = some (numP s most) :=
  number_l s most m0 m1 hs s.size k 0 0 (by omega) hk (by omega) (by omega)

def stepA (a n : Int) : Int := bits .or .u32 ((a * 256) % 4294967296) ((bits .and .i64 n 255) % 4294967296)
theorem or_range (x y : Int) : 0 ≤ bits .or .u32 x y ∧ bits .or .u32 x y < 4294967296 := by
  have h : ∃ z, bits .or .u32 x y = IntKind.u32.wrap z := ⟨_, rfl⟩
  obtain ⟨z, hz⟩ := h
  rw [hz, IntKind.wrap_u32]
  have : (4294967296 : Int) ≠ 0 := by decide
  exact ⟨Int.emod_nonneg _ this, Int.emod_lt_of_pos _ (by decide)⟩
theorem fold_range : ∀ (l : List ByteArray) (a : Int), 0 ≤ a → a < 4294967296 → 0 ≤ l.foldl (fun a x => stepA a (numP x 255)) a ∧ l.foldl (fun a x => stepA a (numP x 255)) a < 4294967296
  | [], a, h0, h1 => ⟨h0, h1⟩
  | x :: l, a, h0, h1 => fold_range l _ (or_range _ _).1 (or_range _ _).2
def parseEnd (ok : Bool) (l : Nat) (a n : Int) : Int × Int × Bool := if ok = true then (if l = 4 then (if rightB a n = true then (a, n, true) else (0, 0, false)) else (0, 0, false)) else (0, 0, false)
def parseP (s : ByteArray) : Int × Int × Bool :=
  let c := Lib.cut s.data.toList [47]
  let l := Lib.splitB ⟨#[46]⟩ 0 (Lib.countB ⟨c.1.toArray⟩ ⟨#[46]⟩) ⟨c.1.toArray⟩
  parseEnd (c.2.2 && l.all (fun x => decide (0 ≤ numP x 255))) l.length (l.foldl (fun a x => stepA a (numP x 255)) 0) (numP ⟨c.2.1.toArray⟩ 32)

theorem parse_l (L : List ByteArray) (n : Int) (M : Nat) (hM : ∀ x ∈ L, x.size < M) (hM2 : M < 4294967296) (hL : L.length < 4294967296) : ∀ (d k i : Nat) (a : Int) (ok : Bool), i + d = L.length → d + M + 1 < k → 0 ≤ a → a < 4294967296 →
    BP.addr_Parse.l0 k ok L L (L.length : Int) i a n = some (parseEnd (ok && (L.drop i).all (fun x => decide (0 ≤ numP x 255))) L.length ((L.drop i).foldl (fun a x => stepA a (numP x 255)) a) n) := by
  intro d
  induction d with
  | zero =>
    intro k i a ok hi hk a0 a1
    obtain ⟨k, rfl⟩ : ∃ j, k = j + 1 := ⟨k - 1, by omega⟩
    rw [List.drop_eq_nil_of_le (by omega)]
    simp only [BP.addr_Parse.l0]
    rw [if_neg (by omega)]
    rw [List.all_nil, Bool.and_true, List.foldl_nil]
    unfold parseEnd
    cases ok
    · rfl
    · rw [if_pos rfl, if_pos rfl]
      by_cases h4 : L.length = 4
      · rw [if_pos (by omega), if_pos h4, right_f a n a0 a1]
        simp only [Option.bind_some]
        by_cases hr : rightB a n = true
        · rw [if_pos hr, if_pos hr]
        · rw [if_neg hr, if_neg hr]
      · rw [if_neg (by omega), if_neg h4]
  | succ d ih =>
    intro k i a ok hi hk a0 a1
    obtain ⟨k, rfl⟩ : ∃ j, k = j + 1 := ⟨k - 1, by omega⟩
    have hlt : i < L.length := by omega
    have hx : rdOf ByteArray.empty L (i : Int) = L[i] := by
      unfold rdOf
      rw [Int.toNat_natCast, List.getD_eq_getElem?_getD, List.getElem?_eq_getElem hlt]
      rfl
    have hsz := hM L[i] (List.getElem_mem hlt)
    rw [List.drop_eq_getElem_cons hlt]
    simp only [BP.addr_Parse.l0]
    rw [if_pos (by omega), if_pos (by omega), if_pos (by omega), hx, number_f k L[i] 255 (by omega) (by omega) (by omega) (by omega)]
    simp only [Option.bind_some, List.all_cons, List.foldl_cons]
    rw [wrap64_id _ (by omega) (by omega)]
    have h2 := ih k (i + 1) (stepA a (numP L[i] 255)) (ok && decide (0 ≤ numP L[i] 255)) (by omega) (by omega) (or_range _ _).1 (or_range _ _).2
    rw [Bool.and_assoc] at h2
    cases ok
    · rw [if_neg (by decide)]
      exact h2
    · rw [if_pos rfl]
      exact h2
theorem splitB_size (sep : ByteArray) (sv : Nat) : ∀ (k : Nat) (s : ByteArray) (M : Nat), s.size ≤ M → ∀ x ∈ Lib.splitB sep sv k s, x.size ≤ M
  | 0, s, M, hs, x, hx => by
    simp only [Lib.splitB, List.mem_singleton] at hx
    subst hx
    exact hs
  | k + 1, s, M, hs, x, hx => by
    unfold Lib.splitB at hx
    split at hx
    · simp only [List.mem_singleton] at hx
      subst hx
      exact hs
    · rcases List.mem_cons.1 hx with rfl | hx
      · rw [ByteArray.size_extract]
        omega
      · exact splitB_size sep sv k _ M (by rw [ByteArray.size_extract]; omega) x hx
theorem cut_len (s sep : List UInt8) : (Lib.cut s sep).1.length ≤ s.length ∧ (Lib.cut s sep).2.1.length ≤ s.length := by
  unfold Lib.cut
  split
  · simp
    omega
  · simp
theorem split_len (s : ByteArray) : (Lib.splitB ⟨#[46]⟩ 0 (Lib.countB s ⟨#[46]⟩) s).length ≤ s.size + 1 := by
  have h1 : 1 ≤ (⟨#[46]⟩ : ByteArray).size := by decide
  rw [Lib.splitB_all _ h1 0 _ s rfl]
  have := Lib.countB_mul_le _ h1 _ s (Nat.le_refl _)
  have := Nat.le_trans (Nat.le_mul_of_pos_right (Lib.countB s ⟨#[46]⟩) h1) this
  omega
theorem parse_f (k : Nat) (s : ByteArray) (hs : s.size < 1000) (hk : 3000 ≤ k) : BP.addr_Parse.f k s = some (parseP s) := by
  unfold BP.addr_Parse.f BP.strings_Cut.f parseP
  have hc := cut_len s.data.toList (⟨#[47]⟩ : ByteArray).data.toList
  have hz : s.data.toList.length = s.size := by simp
  rw [if_pos (by omega)]
  simp only [Option.bind_some]
  have e47 : (⟨#[47]⟩ : ByteArray).data.toList = [47] := rfl
  rw [e47] at *
  generalize Lib.cut s.data.toList [47] = c at *
  obtain ⟨c1, c2, c3⟩ := c
  simp only at *
  unfold BP.strings_Split.f
  have hs1 : (⟨c1.toArray⟩ : ByteArray).size = c1.length := by simp [ByteArray.size]
  have hs2 : (⟨c2.toArray⟩ : ByteArray).size = c2.length := by simp [ByteArray.size]
  rw [if_pos ⟨by omega, by decide⟩]
  simp only [Option.bind_some]
  rw [number_f k _ 32 (by omega) (by omega) (by omega) (by omega)]
  simp only [Option.bind_some]
  have hl := split_len ⟨c1.toArray⟩
  have hm := splitB_size ⟨#[46]⟩ 0 (Lib.countB ⟨c1.toArray⟩ ⟨#[46]⟩) ⟨c1.toArray⟩ 1000 (by omega)
  generalize Lib.splitB ⟨#[46]⟩ 0 (Lib.countB ⟨c1.toArray⟩ ⟨#[46]⟩) ⟨c1.toArray⟩ = L at *
  exact parse_l L _ 1001 (fun x hx => by have := hm x hx; omega) (by omega) (by omega) L.length k 0 0 c3 (by omega) (by omega) (by omega) (by omega)
end Go.Proofs.YtokfgajfkopelaaDoor.Mine
