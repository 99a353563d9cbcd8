/- Plain: rows that are the same; candidates. -/
import Derived.Test.YtdchhhedpipeiaaEP7
set_option linter.unusedVariables false
set_option linter.unusedSimpArgs false
namespace BE
open Go Go.Ev
variable {l : List T41} {links : List Int}

theorem getD_eq_getElem {α : Type} {l : List α} {i : Nat} (h : i < l.length) (d : α) : l.getD i d = l[i] := by
  rw [List.getD_eq_getElem?_getD, List.getElem?_eq_getElem h]
  rfl
theorem drop_eq_cons {α : Type} [DecidableEq α] {a b : List α} {i : Nat} (h : i < a.length) (hl : a.length = b.length) (d : α) : decide (a.drop i = b.drop i) = bif decide (a.getD i d = b.getD i d) then decide (a.drop (i + 1) = b.drop (i + 1)) else false := by
  rw [drop_getD h d, drop_getD (show i < b.length by omega) d]
  by_cases e : a.getD i d = b.getD i d
  · rw [decide_eq_true e, e]
    simp
  · rw [decide_eq_false e, cond_false]
    exact decide_eq_false fun h => e (List.cons.inj h).1
theorem SameI_eq (a b : List Int) (hl : a.length < 4611686018427387904) : SameI.F (a, b, ()) = some (decide (a = b), ()) := by
  show SameI.b a b (fun t => SameI.l4 FU a b FU t) = _
  unfold SameI.b
  by_cases he : a.length = b.length
  · rw [show (((a.length : Nat) : Int) != ((b.length : Nat) : Int)) = false from by simp [he], cond_false]
    show SameI.l4 FU a b FU 0 = _
    unfold SameI.l4
    rw [iterN_eq (F := fun s : Int => some (decide (a.drop s.toNat = b.drop s.toNat), ())) (fun s : Int => ∃ i : Nat, s = (i : Int) ∧ i ≤ a.length) (fun s : Int => a.length - s.toNat)]
    · rfl
    · rintro s k ⟨i, hi, hle⟩ hk
      subst hi
      unfold SameI.b4
      simp only
      by_cases hlt : i < a.length
      · rw [decide_eq_true (show (i : Int) < (a.length : Nat) by omega), decide_eq_true (show (0 : Int) ≤ (i : Nat) by omega), decide_eq_true (show (i : Int) < (b.length : Nat) by omega), wrap_succ hlt hl, hk _ ⟨i + 1, rfl, hlt⟩ (by simp; omega)]
        simp only [cond_true, Bool.and_self, Int.toNat_natCast]
        rw [drop_eq_cons hlt he 0]
        by_cases h : a.getD i 0 = b.getD i 0
        · rw [decide_eq_true h, show (a.getD i 0 != b.getD i 0) = false from by simpa using h]
          rfl
        · rw [decide_eq_false h, show (a.getD i 0 != b.getD i 0) = true from by simpa using h]
          rfl
      · rw [decide_eq_false (show ¬ (i : Int) < (a.length : Nat) by omega), Int.toNat_natCast, List.drop_of_length_le (by omega), List.drop_of_length_le (by omega)]
        rfl
    · exact ⟨0, rfl, Nat.zero_le _⟩
    · exact FU_lt (by simp; omega)
  · rw [show (((a.length : Nat) : Int) != ((b.length : Nat) : Int)) = true from by simp; omega, cond_true, decide_eq_false (fun e => he (congrArg List.length e))]
theorem hop_eq (x y : T44) : (x.1 == y.1 && x.2 == y.2) = decide (x = y) := by
  rw [Bool.eq_iff_iff]
  simp [Prod.ext_iff]
theorem SameH_eq (a b : List T44) (hl : a.length < 4611686018427387904) : SameH.F (a, b, ()) = some (decide (a = b), ()) := by
  show SameH.b a b (fun t => SameH.l4 FU a b FU t) = _
  unfold SameH.b
  by_cases he : a.length = b.length
  · rw [show (((a.length : Nat) : Int) != ((b.length : Nat) : Int)) = false from by simp [he], cond_false]
    show SameH.l4 FU a b FU 0 = _
    unfold SameH.l4
    rw [iterN_eq (F := fun s : Int => some (decide (a.drop s.toNat = b.drop s.toNat), ())) (fun s : Int => ∃ i : Nat, s = (i : Int) ∧ i ≤ a.length) (fun s : Int => a.length - s.toNat)]
    · rfl
    · rintro s k ⟨i, hi, hle⟩ hk
      subst hi
      unfold SameH.b4
      simp only
      by_cases hlt : i < a.length
      · rw [decide_eq_true (show (i : Int) < (a.length : Nat) by omega), decide_eq_true (show (0 : Int) ≤ (i : Nat) by omega), decide_eq_true (show (i : Int) < (b.length : Nat) by omega), wrap_succ hlt hl, hk _ ⟨i + 1, rfl, hlt⟩ (by simp; omega)]
        simp only [cond_true, Bool.and_self, Int.toNat_natCast]
        rw [drop_eq_cons hlt he ty44.dflt, hop_eq]
        cases decide (a.getD i ty44.dflt = b.getD i ty44.dflt) <;> rfl
      · rw [decide_eq_false (show ¬ (i : Int) < (a.length : Nat) by omega), Int.toNat_natCast, List.drop_of_length_le (by omega), List.drop_of_length_le (by omega)]
        rfl
    · exact ⟨0, rfl, Nat.zero_le _⟩
    · exact FU_lt (by simp; omega)
  · rw [show (((a.length : Nat) : Int) != ((b.length : Nat) : Int)) = true from by simp; omega, cond_true, decide_eq_false (fun e => he (congrArg List.length e))]
theorem rSame_eq (a b : List T44) (hl : a.length < 4611686018427387904) : rSame.F (a, b, ()) = some (decide (a = b), ()) := SameH_eq a b hl
theorem Equal_eq (a b : List T44) (hl : a.length < 4611686018427387904) : Equal.F (a, b, ()) = some (decide (a = b), ()) := by
  show Equal.b a b (fun t => Equal.l4 FU a b FU t) = _
  unfold Equal.b
  by_cases he : a.length = b.length
  · rw [show (((a.length : Nat) : Int) != ((b.length : Nat) : Int)) = false from by simp [he], cond_false]
    show Equal.l4 FU a b FU (((a.length : Nat) : Int), 0) = _
    unfold Equal.l4
    rw [iterN_eq (F := fun s : Int × Int => some (decide (a.drop s.2.toNat = b.drop s.2.toNat), ())) (fun s : Int × Int => s.1 = ((a.length : Nat) : Int) ∧ ∃ i : Nat, s.2 = (i : Int) ∧ i ≤ a.length) (fun s : Int × Int => a.length - s.2.toNat)]
    · rfl
    · rintro ⟨len, s⟩ k ⟨h1, i, hi, hle⟩ hk
      have h1 : len = ((a.length : Nat) : Int) := h1
      have hi : s = (i : Int) := hi
      subst h1 hi
      unfold Equal.b4
      simp only
      by_cases hlt : i < a.length
      · rw [decide_eq_true (show (i : Int) < (a.length : Nat) by omega), decide_eq_true (show (0 : Int) ≤ (i : Nat) by omega), decide_eq_true (show (i : Int) < (b.length : Nat) by omega), wrap_succ hlt hl, hk _ ⟨rfl, i + 1, rfl, hlt⟩ (by simp; omega)]
        simp only [cond_true, Bool.and_self, Int.toNat_natCast]
        rw [drop_eq_cons hlt he ty44.dflt, hop_eq]
        cases decide (a.getD i ty44.dflt = b.getD i ty44.dflt) <;> rfl
      · rw [decide_eq_false (show ¬ (i : Int) < (a.length : Nat) by omega), cond_false]
        have h1 : a.drop i = [] := List.drop_of_length_le (by omega)
        have h2 : b.drop i = [] := List.drop_of_length_le (by omega)
        rw [decide_eq_true (show a.drop ((((a.length : Nat) : Int), (i : Int)) : Int × Int).2.toNat = b.drop ((((a.length : Nat) : Int), (i : Int)) : Int × Int).2.toNat from h1.trans h2.symm)]
    · exact ⟨rfl, 0, rfl, Nat.zero_le _⟩
    · exact FU_lt (by simp; omega)
  · rw [show (((a.length : Nat) : Int) != ((b.length : Nat) : Int)) = true from by simp; omega, cond_true, decide_eq_false (fun e => he (congrArg List.length e))]
theorem eSame_eq (a b : List T44) (hl : a.length < 4611686018427387904) : eSame.F (a, b, ()) = some (decide (a = b), ()) := by
  show eSame.b Equal.F a b = _
  unfold eSame.b
  rw [Equal_eq a b hl]
  rfl
theorem inn_eq (hl : l.length < 1000000) : inn.F (l, ()) = some (l, ()) := by
  show inn.l3 FU l FU (0, []) = _
  unfold inn.l3
  rw [iterN_eq (F := fun _ : Int × List T41 => some (l, ())) (fun s : Int × List T41 => ∃ i : Nat, s.1 = (i : Int) ∧ i ≤ l.length ∧ s.2 = l.take i) (fun s : Int × List T41 => l.length - s.1.toNat)]
  · rintro ⟨s, out⟩ k ⟨i, hi, hle, ho⟩ hk
    have hi : s = (i : Int) := hi
    have ho : out = l.take i := ho
    subst hi ho
    unfold inn.b3
    simp only
    by_cases hlt : i < l.length
    · rw [decide_eq_true (show (i : Int) < (l.length : Nat) by omega), decide_eq_true (show (0 : Int) ≤ (i : Nat) by omega), decide_eq_true (show ((l.take i).length + 1) * 112 ≤ maxBytes by unfold maxBytes; simp; omega), wrap_succ hlt (by omega)]
      simp only [cond_true, Bool.and_self, Int.toNat_natCast]
      refine hk _ ⟨i + 1, rfl, hlt, ?_⟩ (by simp; omega)
      show _ ++ [l.getD i ty41.dflt] = _
      rw [List.take_succ_eq_append_getElem hlt, getD_eq_getElem hlt]
    · rw [decide_eq_false (show ¬ (i : Int) < (l.length : Nat) by omega), List.take_of_length_le (by omega)]
      rfl
  · exact ⟨0, rfl, Nat.zero_le _, rfl⟩
  · exact FU_lt (by simp; omega)

/-! ### The same answers -/
theorem setD_length (w : Int) : (setD l links w).length ≤ 8 := by
  unfold setD
  split
  · rw [List.length_take]; omega
  · simp
theorem mem_insAll {α : Type} {lt : α → α → Bool} {z : α} {l : List α} : z ∈ insAll lt l ↔ z ∈ l := by
  unfold insAll
  rw [List.mem_reverse]
  have : ∀ (m acc : List α), z ∈ m.foldl (fun acc x => insRev lt x acc) acc ↔ z ∈ m ∨ z ∈ acc := by
    intro m
    induction m with
    | nil => simp
    | cons x m ih =>
      intro acc
      simp only [List.foldl_cons]
      rw [ih, mem_insRev, List.mem_cons]
      constructor
      · rintro (h | h | h) <;> simp [h]
      · rintro ((h | h) | h) <;> simp [h]
  rw [this]
  simp
theorem setD_in (w : Int) : ∀ n ∈ setD l links w, 0 ≤ n ∧ n < (links.length : Nat) := fun n hn => by
  unfold setD at hn
  split at hn
  · rename_i h
    rw [h.1]
    exact leftN_in 6 n (mem_insAll.1 (List.mem_of_mem_take hn))
  · cases hn
/-- The hops. -/
noncomputable def hopsD (l : List T41) (links : List Int) (w : Int) : List T44 := hopsN (nsOf links (setD l links w))
theorem hopsD_eq (hf : ∀ a ∈ l, Fit a) (hlen : l.length < 20) (hr : ∀ n ∈ links, 0 ≤ n ∧ n ≤ 1000000) (w : Int) : Hops.F (l, links, w, ()) = some (hopsD l links w, ()) :=
  Hops_eq w (Set_eq hf hlen links w) (setD_in w) (setD_length w) hr
theorem rHopsD_eq (hf : ∀ a ∈ l, Fit a) (hlen : l.length < 20) (w : Int) : rHops.F (l, links, w, ()) = some (hopsD l links w, ()) :=
  rHops_eq w (rSet_eq hf hlen links w) (setD_in w) (setD_length w)
theorem hopsD_length (w : Int) : (hopsD l links w).length ≤ 8 := by
  unfold hopsD hopsN hopsOf
  refine Nat.le_trans (List.length_filter_le _ _) ?_
  rw [List.length_zip]
  have h1 := psN_length (nsOf links (setD l links w))
  have h2 : (nsOf links (setD l links w)).length ≤ 8 := by unfold nsOf; rw [List.length_map]; exact setD_length w
  have h3 : (ksN (nsOf links (setD l links w))).length = (psN (nsOf links (setD l links w))).length := by
    show ((psN (nsOf links (setD l links w))).map (·.1)).length = _
    rw [List.length_map]
  omega
theorem same_eq (hf : ∀ a ∈ l, Fit a) (hlen : l.length < 20) (hr : ∀ n ∈ links, 0 ≤ n ∧ n ≤ 1000000) (w : Int) : same.F (l, links, w, ()) = some (true, ()) := by
  have h8 := setD_length (l := l) (links := links) w
  have h9 := hopsD_length (l := l) (links := links) w
  show same.b Set.F inn.F rSet.F SameI.F Hops.F rHops.F SameH.F l links w = _
  unfold same.b
  rw [Set_eq hf hlen, inn_eq (by omega)]
  simp only [Option.bind_some]
  rw [rSet_eq hf hlen]
  simp only [Option.bind_some]
  rw [SameI_eq _ _ (by omega), hopsD_eq hf hlen hr]
  simp only [Option.bind_some]
  rw [rHopsD_eq hf hlen]
  simp only [Option.bind_some]
  rw [SameH_eq _ _ (by omega)]
  simp

/-! ### Candidates -/
def trimS (s : T71) : T71 := if (s.2.length : Nat) > 6 then (s.1, s.2.take 6) else s
theorem Short_loop (a0 : T36) (x1 : Int) (x2 : Int) (x3 : Bool) (x4 : Int) (x5 : Bool) (x6 : Int) (x7 : Bool) (q : List Int) (p : List T71) (hp : p.length ≤ 18) :
    Short.l5 FU a0 FU (0, x1, p, x2, x3, x4, x5, x6, x7, q, 0, 0, false, 0, false, 0, false, []) = some ((x1, p.map trimS, x2, x3, x4, x5, x6, x7, q.take 34), ()) := by
  unfold Short.l5
  rw [iterN_eq (F := fun _ => some ((x1, p.map trimS, x2, x3, x4, x5, x6, x7, q.take 34), ()))
    (fun s => ∃ i : Nat, i ≤ p.length ∧ s = ((i : Int), x1, p, x2, x3, x4, x5, x6, x7, q, 0, 0, false, 0, false, 0, false, (p.take i).map trimS)) (fun s => p.length - s.1.toNat)]
  · rintro _ k ⟨i, hle, rfl⟩ hk
    unfold Short.b5
    simp only
    by_cases hlt : i < p.length
    · have hk' := hk _ ⟨i + 1, hlt, rfl⟩ (by simp; omega)
      rw [take_map_succ hlt trimS ty71.dflt] at hk'
      rw [decide_eq_true (show (i : Int) < (p.length : Nat) by omega), decide_eq_true (show (0 : Int) ≤ (i : Nat) by omega), decide_eq_true (show (((p.take i).map trimS).length + 1) * 32 ≤ maxBytes by unfold maxBytes; simp; omega), wrap_succ hlt (by omega)]
      simp only [cond_true, Bool.and_self, Int.toNat_natCast]
      unfold trimS at hk'
      by_cases h6 : (p.getD i ty71.dflt).2.length > 6
      · rw [decide_eq_true (show (((p.getD i ty71.dflt).2.length : Nat) : Int) > 6 by omega), decide_eq_true (show (6 : Int) ≤ (((p.getD i ty71.dflt).2.length : Nat) : Int) by omega)]
        simp only [cond_true]
        rw [if_pos h6] at hk'
        exact hk'
      · rw [decide_eq_false (show ¬ (((p.getD i ty71.dflt).2.length : Nat) : Int) > 6 by omega)]
        simp only [cond_false]
        rw [if_neg h6] at hk'
        exact hk'
    · rw [decide_eq_false (show ¬ (i : Int) < (p.length : Nat) by omega), List.take_of_length_le (by omega)]
      simp only [cond_false]
      by_cases h : ((q.length : Nat) : Int) > 34
      · rw [decide_eq_true h, decide_eq_true (show (34 : Int) ≤ (q.length : Nat) by omega)]
        rfl
      · rw [decide_eq_false h, cond_false, List.take_of_length_le (show q.length ≤ 34 by omega)]
  · exact ⟨0, Nat.zero_le _, rfl⟩
  · exact FU_lt (by simp; omega)
theorem Short_ok (x : T36) : ∃ y, Short.F (x, ()) = some (y, ()) ∧ y.2.1.length ≤ 18 := by
  obtain ⟨x1, p, x2, x3, x4, x5, x6, x7, q⟩ := x
  show ∃ y, Short.b (x1, p, x2, x3, x4, x5, x6, x7, q) (fun t => Short.l5 FU (x1, p, x2, x3, x4, x5, x6, x7, q) FU t) = some (y, ()) ∧ _
  unfold Short.b
  simp only
  by_cases h : p.length > 18
  · rw [decide_eq_true (show ((p.length : Nat) : Int) > 18 by omega), decide_eq_true (show (18 : Int) ≤ (p.length : Nat) by omega)]
    simp only [cond_true]
    exact ⟨_, Short_loop _ x1 x2 x3 x4 x5 x6 x7 q (p.take 18) (by simp; omega), by simp; omega⟩
  · rw [decide_eq_false (show ¬ ((p.length : Nat) : Int) > 18 by omega), cond_false]
    exact ⟨_, Short_loop _ x1 x2 x3 x4 x5 x6 x7 q p (by omega), by simp; omega⟩
noncomputable def shortD (x : T36) : T36 := match Short.F (x, ()) with
  | some (y, _) => y
  | none => x
theorem Short_eq (x : T36) : Short.F (x, ()) = some (shortD x, ()) ∧ (shortD x).2.1.length ≤ 18 := by
  obtain ⟨y, h, h'⟩ := Short_ok x
  unfold shortD
  rw [h]
  exact ⟨rfl, h'⟩
noncomputable def withinD (n lo hi : Int) : Int := match Within.F (n, lo, hi, ()) with
  | some (y, _) => y
  | none => lo
theorem Within_eq (n lo hi : Int) (h0 : 0 ≤ lo) (h1 : lo ≤ hi) (h2 : hi ≤ 1000000) : Within.F (n, lo, hi, ()) = some (withinD n lo hi, ()) ∧ lo ≤ withinD n lo hi ∧ withinD n lo hi ≤ hi := by
  obtain ⟨w, h, h'⟩ := within_ok n lo hi h0 h1 h2
  unfold withinD
  rw [h]
  exact ⟨rfl, h'⟩
noncomputable def candD (few : Bool) (i : Int) (x : T53) : T41 :=
  bif few then ((i, Int.tmod x.1 4, x.2.1, false, (0, [], x.2.2.2.1.2.2.1, x.2.2.2.1.2.2.2.1, Int.tmod x.2.2.2.1.2.2.2.2.1 2, false, 0, false, [])), FloatKind.f64.nearest (Int.tmod x.2.1 2))
  else ((i, x.1, x.2.1, x.2.2.1, shortD x.2.2.2.1), x.2.2.2.2.1)
noncomputable def candsN (few : Bool) (r : List T53) (n : Nat) : List T41 := (List.range n).map fun i : Nat => candD few (i : Int) (r.getD i ty53.dflt)
noncomputable def linksN (r : List T53) (n : Nat) : List Int := (List.range n).map fun i : Nat => withinD (r.getD i ty53.dflt).2.2.2.2.2 0 4
noncomputable def candsD (few : Bool) (r : List T53) : List T41 := candsN few r (min r.length 12)
noncomputable def linksD (r : List T53) : List Int := linksN r (min r.length 12)
theorem candsN_succ (few : Bool) (r : List T53) (n : Nat) : candsN few r (n + 1) = candsN few r n ++ [candD few (n : Int) (r.getD n ty53.dflt)] := by
  unfold candsN
  rw [List.range_succ, List.map_append]
  rfl
theorem linksN_succ (r : List T53) (n : Nat) : linksN r (n + 1) = linksN r n ++ [withinD (r.getD n ty53.dflt).2.2.2.2.2 0 4] := by
  unfold linksN
  rw [List.range_succ, List.map_append]
  rfl
theorem candsN_length (few : Bool) (r : List T53) (n : Nat) : (candsN few r n).length = n := by simp [candsN]
theorem linksN_length (r : List T53) (n : Nat) : (linksN r n).length = n := by simp [linksN]
theorem cands_eq (few : Bool) (r : List T53) : cands.F (r, few, ()) = some (candsD few r, linksD r, ()) := by
  show cands.l4 Short.F Within.F FU r few FU (0, [], []) = _
  unfold cands.l4
  rw [iterN_eq (F := fun _ : Int × List T41 × List Int => some (candsD few r, linksD r, ())) (fun s : Int × List T41 × List Int => ∃ i : Nat, s.1 = (i : Int) ∧ i ≤ min r.length 12 ∧ s.2.1 = candsN few r i ∧ s.2.2 = linksN r i) (fun s : Int × List T41 × List Int => 12 - s.1.toNat)]
  · rintro ⟨s, c, ls⟩ k ⟨i, hi, hle, hc, hl⟩ hk
    have hi : s = (i : Int) := hi
    have hc : c = candsN few r i := hc
    have hl : ls = linksN r i := hl
    subst hi hc hl
    unfold cands.b4
    simp only
    by_cases hlt : i < min r.length 12
    · have hS := Short_eq (r.getD i ty53.dflt).2.2.2.1
      have hW := Within_eq (r.getD i ty53.dflt).2.2.2.2.2 0 4 (by omega) (by omega) (by omega)
      rw [decide_eq_true (show (i : Int) < (r.length : Nat) by omega), decide_eq_true (show (i : Int) < 12 by omega), decide_eq_true (show (0 : Int) ≤ (i : Nat) by omega),
        decide_eq_true (show ((candsN few r i).length + 1) * 112 ≤ maxBytes by unfold maxBytes; rw [candsN_length]; omega), decide_eq_true (show ((linksN r i).length + 1) * 8 ≤ maxBytes by unfold maxBytes; rw [linksN_length]; omega)]
      simp only [cond_true, Bool.and_self, Int.toNat_natCast]
      rw [hS.1, hW.1]
      simp only [Option.bind_some]
      rw [wrap_succ (n := 12) (by omega) (by omega)]
      have h1 := candsN_succ few r i
      have h2 := linksN_succ r i
      cases few with
      | true =>
        simp only [cond_true]
        exact hk _ ⟨i + 1, rfl, hlt, h1.symm, h2.symm⟩ (by simp; omega)
      | false =>
        simp only [cond_false]
        exact hk _ ⟨i + 1, rfl, hlt, h1.symm, h2.symm⟩ (by simp; omega)
    · have e : i = min r.length 12 := by omega
      have hres : some (candsN few r i, linksN r i, PUnit.unit) = some (candsD few r, linksD r, ()) := by
        rw [e]
        rfl
      by_cases h3 : i < r.length
      · rw [decide_eq_true (show (i : Int) < (r.length : Nat) by omega), decide_eq_false (show ¬ (i : Int) < 12 by omega)]
        exact hres
      · rw [decide_eq_false (show ¬ (i : Int) < (r.length : Nat) by omega)]
        exact hres
  · exact ⟨0, rfl, Nat.zero_le _, rfl, rfl⟩
  · exact FU_lt (by simp)
theorem candsD_length (few : Bool) (r : List T53) : (candsD few r).length = min r.length 12 := candsN_length _ _ _
theorem linksD_length (r : List T53) : (linksD r).length = min r.length 12 := linksN_length _ _
theorem candsD_fit (few : Bool) (r : List T53) : ∀ a ∈ candsD few r, Fit a := fun a ha => by
  obtain ⟨i, _, rfl⟩ := List.mem_map.1 ha
  unfold Fit candD
  cases few with
  | true => exact (by omega : (0 : Nat) < 1000)
  | false =>
    have := (Short_eq (r.getD i ty53.dflt).2.2.2.1).2
    show (shortD (r.getD i ty53.dflt).2.2.2.1).2.1.length < 1000
    omega
theorem linksD_in (r : List T53) : ∀ n ∈ linksD r, 0 ≤ n ∧ n ≤ 1000000 := fun n hn => by
  obtain ⟨i, _, rfl⟩ := List.mem_map.1 hn
  have := (Within_eq (r.getD i ty53.dflt).2.2.2.2.2 0 4 (by omega) (by omega) (by omega)).2
  omega
end BE
