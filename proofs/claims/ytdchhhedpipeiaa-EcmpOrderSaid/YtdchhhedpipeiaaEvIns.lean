/- Insertion sort as lists: plain. -/
import Derived.Sort.Defs
namespace Go.Ev
/-- x comes into a row that stands turned round: from its end it goes ahead as long as it is less. -/
def insRev {α : Type} (lt : α → α → Bool) (x : α) : List α → List α
  | [] => [x]
  | y :: r => bif lt x y then y :: insRev lt x r else x :: y :: r
def insAll {α : Type} (lt : α → α → Bool) (l : List α) : List α := (l.foldl (fun acc x => insRev lt x acc) []).reverse

theorem length_insRev {α : Type} (lt : α → α → Bool) (x : α) : ∀ r : List α, (insRev lt x r).length = r.length + 1
  | [] => rfl
  | y :: r => by
    simp only [insRev]
    cases lt x y
    · rfl
    · simp [length_insRev lt x r]

theorem length_insAll {α : Type} (lt : α → α → Bool) (l : List α) : (insAll lt l).length = l.length := by
  have : ∀ (l acc : List α), (l.foldl (fun acc x => insRev lt x acc) acc).length = acc.length + l.length := by
    intro l
    induction l with
    | nil => intro acc; rfl
    | cons x r ih => intro acc; rw [List.foldl_cons, ih, length_insRev, List.length_cons]; omega
  unfold insAll
  rw [List.length_reverse, this]
  simp
section
variable {α : Type} [Inhabited α] (lt : α → α → Bool)
theorem swp_list {d : Array α} {r post : List α} {x y : α} (h : d.toList = r.reverse ++ y :: x :: post) : (Sort.swp d (r.length + 1) r.length).toList = r.reverse ++ x :: y :: post := by
  have hd : d = (r.reverse ++ y :: x :: post).toArray := by rw [← h]
  subst hd
  have e1 : (r.reverse ++ y :: x :: post).toArray[r.length]! = y := by
    rw [getElem!_pos _ _ (by simp)]
    simp
  have e2 : (r.reverse ++ y :: x :: post).toArray[r.length + 1]! = x := by
    rw [getElem!_pos _ _ (by simp)]
    simp
  unfold Sort.swp
  rw [e1, e2]
  simp only [Array.toList_setIfInBounds]
  rw [List.set_append_right _ _ (by simp), List.set_append_right _ _ (by simp)]
  simp
theorem inner_list (x : α) : ∀ (r post : List α) (d : Array α), d.toList = r.reverse ++ x :: post → (Sort.insInner lt 0 r.length d).toList = (insRev lt x r).reverse ++ post
  | [], post, d, h => by simpa [Sort.insInner, insRev] using h
  | y :: r, post, d, h => by
    have h' : d.toList = r.reverse ++ y :: x :: post := by simpa using h
    have hd : d = (r.reverse ++ y :: x :: post).toArray := by rw [← h']
    have e1 : d[r.length]! = y := by
      rw [hd, getElem!_pos _ _ (by simp)]
      simp
    have e2 : d[r.length + 1]! = x := by
      rw [hd, getElem!_pos _ _ (by simp)]
      simp
    simp only [List.length_cons, Sort.insInner, e1, e2, insRev]
    cases hl : lt x y with
    | true =>
      simp only [Nat.zero_lt_succ, gt_iff_lt, decide_true, Bool.and_self, if_true, cond_true]
      rw [inner_list x r (y :: post) _ (swp_list h')]
      simp
    | false =>
      simp only [Bool.and_false, Bool.false_eq_true, if_false, cond_false]
      rw [h']
      simp
theorem outer_list (n : Nat) : ∀ (todo done : List α) (d : Array α), d.toList = done.reverse ++ todo → n = done.length + todo.length → (Sort.insOuter lt 0 n done.length d).toList = (todo.foldl (fun acc x => insRev lt x acc) done).reverse
  | [], done, d, h, hn => by
    rw [Sort.insOuter, if_neg (by simp at hn; omega)]
    simpa using h
  | x :: todo, done, d, h, hn => by
    rw [Sort.insOuter, if_pos (by simp at hn; omega)]
    have h1 := inner_list lt x done todo d h
    have h2 := outer_list n todo (insRev lt x done) _ h1 (by rw [length_insRev]; simp at hn; omega)
    rw [length_insRev] at h2
    exact h2
theorem insertionSort_list (d : Array α) : (Sort.insertionSort lt d 0 d.size).toList = insAll lt d.toList := by
  unfold Sort.insertionSort insAll
  cases hd : d.toList with
  | nil =>
    have : d.size = 0 := by rw [← Array.length_toList, hd]; rfl
    rw [this, Sort.insOuter, if_neg (by omega), hd]
    rfl
  | cons x r =>
    have hs : d.size = r.length + 1 := by rw [← Array.length_toList, hd]; rfl
    exact outer_list lt d.size r [x] d (by simpa using hd) (by simp; omega)
end
theorem insRev_map {α β : Type} (f : α → β) (lt : α → α → Bool) (lt' : β → β → Bool) (h : ∀ x y, lt x y = lt' (f x) (f y)) (x : α) : ∀ r : List α, (insRev lt x r).map f = insRev lt' (f x) (r.map f)
  | [] => rfl
  | y :: r => by
    simp only [insRev, List.map_cons, ← h]
    cases lt x y
    · rfl
    · simp [insRev_map f lt lt' h x r]
theorem insAll_map {α β : Type} (f : α → β) (lt : α → α → Bool) (lt' : β → β → Bool) (h : ∀ x y, lt x y = lt' (f x) (f y)) (l : List α) : (insAll lt l).map f = insAll lt' (l.map f) := by
  unfold insAll
  rw [List.map_reverse]
  congr 1
  have : ∀ (l acc : List α), (l.foldl (fun acc x => insRev lt x acc) acc).map f = (l.map f).foldl (fun acc x => insRev lt' x acc) (acc.map f) := by
    intro l
    induction l with
    | nil => intro acc; rfl
    | cons x r ih => intro acc; simp only [List.foldl_cons, List.map_cons]; rw [ih, insRev_map f lt lt' h]
  exact this l []
end Go.Ev
