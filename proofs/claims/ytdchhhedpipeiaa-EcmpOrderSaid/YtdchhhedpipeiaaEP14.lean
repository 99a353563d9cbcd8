/- Plain: where candidates stand does not matter. -/
import Derived.Test.YtdchhhedpipeiaaEP13
set_option linter.unusedVariables false
set_option linter.unusedSimpArgs false
namespace BE
open Go Go.Ev

theorem sorted_key {α : Type} (f : α → Int) : ∀ {a b : List α}, a.Pairwise (fun x y => f x < f y) → b.Pairwise (fun x y => f x < f y) → (∀ x, x ∈ a ↔ x ∈ b) → a = b
  | [], [], _, _, _ => rfl
  | [], y :: b, _, _, h => by have := (h y).2 (by simp); cases this
  | x :: a, [], _, _, h => by have := (h x).1 (by simp); cases this
  | x :: a, y :: b, ha, hb, h => by
    have ⟨a1, a2⟩ := List.pairwise_cons.1 ha
    have ⟨b1, b2⟩ := List.pairwise_cons.1 hb
    have hxy : x = y := by
      rcases List.mem_cons.1 ((h x).1 (by simp)) with e | e
      · exact e
      · rcases List.mem_cons.1 ((h y).2 (by simp)) with e' | e'
        · exact e'.symm
        · have := b1 x e
          have := a1 y e'
          omega
    subst hxy
    rw [sorted_key f a2 b2 fun z => ?_]
    constructor
    · intro hz
      rcases List.mem_cons.1 ((h z).1 (List.mem_cons_of_mem _ hz)) with e | e
      · have := a1 z hz
        rw [e] at this
        omega
      · exact e
    · intro hz
      rcases List.mem_cons.1 ((h z).2 (List.mem_cons_of_mem _ hz)) with e | e
      · have := b1 z hz
        rw [e] at this
        omega
      · exact e

/-! ### Insertion keeps what there is, and puts it in order -/
theorem insL_perm {α : Type} {lt : α → α → Bool} {x : α} : ∀ r : List α, (insL lt x r).Perm (x :: r)
  | [] => List.Perm.refl _
  | y :: r => by
    unfold insL
    cases lt x y with
    | true => exact List.Perm.refl _
    | false => exact ((insL_perm r).cons y).trans (List.Perm.swap x y r)
theorem foldl_insL_perm {α : Type} {lt : α → α → Bool} : ∀ (m acc : List α), (m.foldl (fun acc x => insL lt x acc) acc).Perm (m ++ acc)
  | [], acc => List.Perm.refl _
  | x :: m, acc => by
    refine (foldl_insL_perm m _).trans ?_
    exact ((insL_perm acc).append_left m).trans List.perm_middle
theorem insAll_nodup {α : Type} {lt : α → α → Bool} (hw : Weak lt) {m : List α} (h : m.Nodup) : (insAll lt m).Nodup := by
  rw [← insL_all hw]
  have := foldl_insL_perm (lt := lt) m []
  rw [List.append_nil] at this
  exact this.nodup_iff.2 h
theorem insAll_sor {α : Type} {lt : α → α → Bool} (hw : Weak lt) (m : List α) : Sor lt (insAll lt m) := by
  rw [← insL_all hw]
  have : ∀ (m acc : List α), Sor lt acc → Sor lt (m.foldl (fun acc x => insL lt x acc) acc) := by
    intro m
    induction m with
    | nil => intro acc h; exact h
    | cons x m ih => intro acc h; exact ih _ (insL_sor (x := x) hw h).1
  exact this m [] List.Pairwise.nil
variable {l : List T41}
theorem leftN_nodup : ∀ k, (leftN l k).Nodup
  | 0 => range_nodup _
  | k + 1 => by
    have := leftN_nodup k
    show (siftD l (leftN l k) ((k + 1 : Nat) : Int)).Nodup
    unfold siftD sf
    split
    · exact (this.filter _).sublist (List.take_sublist _ _)
    · exact this.filter _
/-- Candidates of unlike numbers. -/
def Unlike (l : List T41) : Prop := ∀ i j : Nat, i < l.length → j < l.length → i ≠ j → idOf (l.getD i ty41.dflt) ≠ idOf (l.getD j ty41.dflt)
theorem allD_sorted (h : Unlike l) : (allD l).Pairwise fun x y => idOf (at_ l x) < idOf (at_ l y) := by
  have h1 : Sor (ltS l) (allD l) := insAll_sor weak_ltS _
  have h2 : (allD l).Nodup := insAll_nodup weak_ltS (leftN_nodup 6)
  have hin : ∀ n ∈ allD l, 0 ≤ n ∧ n < (l.length : Nat) := fun n hn => leftN_in 6 n (mem_insAll.1 hn)
  refine ((h1.and h2).imp_of_mem fun {x y} hx hy hxy => ?_)
  have hx := hin x hx
  have hy := hin y hy
  have hne := h x.toNat y.toNat (by omega) (by omega) (by have := hxy.2; omega)
  have h3 := hxy.1
  unfold ltS at h3
  rw [Bool.or_eq_false_iff, decide_eq_false_iff_not] at h3
  have : idOf (at_ l x) ≠ idOf (at_ l y) := hne
  omega

/-! ### Another order -/
/-- d stands as c does, places turned by σ. -/
structure Turned (c d : List T41) (σ : Int → Int) : Prop where
  len : d.length = c.length
  map : ∀ j : Int, 0 ≤ j ∧ j < (c.length : Nat) → (0 ≤ σ j ∧ σ j < (c.length : Nat)) ∧ at_ d j = at_ c (σ j)
  inj : ∀ i j : Int, 0 ≤ i ∧ i < (c.length : Nat) → 0 ≤ j ∧ j < (c.length : Nat) → σ i = σ j → i = j
  sur : ∀ n : Int, 0 ≤ n ∧ n < (c.length : Nat) → ∃ j : Int, (0 ≤ j ∧ j < (c.length : Nat)) ∧ σ j = n
theorem turned_left {c d : List T41} {σ : Int → Int} (h : Turned c d σ) : ∀ k, k ≤ 6 → ∀ j : Int, 0 ≤ j ∧ j < (c.length : Nat) → (j ∈ leftN d k ↔ σ j ∈ leftN c k)
  | 0, _ => fun j hj => by
    have hs := (h.map j hj).1
    have h1 : j ∈ leftN d 0 := List.mem_map.2 ⟨j.toNat, List.mem_range.2 (by rw [h.len]; omega), by omega⟩
    have h2 : σ j ∈ leftN c 0 := List.mem_map.2 ⟨(σ j).toNat, List.mem_range.2 (by omega), by omega⟩
    exact ⟨fun _ => h2, fun _ => h1⟩
  | k + 1, hk => fun j hj => by
    have ih := turned_left h k (by omega)
    have e1 : ∀ l : List T41, leftN l (k + 1) = (leftN l k).filter fun n => !(leftN l k).any fun m => bt (at_ l n) (at_ l m) ((k + 1 : Nat) : Int) := fun l => by
      show siftD l (leftN l k) ((k + 1 : Nat) : Int) = _
      unfold siftD
      rw [if_neg (by omega)]
      rfl
    have hd : ∀ n ∈ leftN d k, 0 ≤ n ∧ n < (c.length : Nat) := fun n hn => by
      have := leftN_in (l := d) k n hn
      rw [h.len] at this
      exact this
    rw [e1, e1, List.mem_filter, List.mem_filter, ih j hj]
    refine and_congr_right fun _ => ?_
    rw [Bool.not_eq_true', Bool.not_eq_true', List.any_eq_false, List.any_eq_false]
    constructor
    · intro hall m hm
      obtain ⟨i, hi, rfl⟩ := h.sur m (leftN_in k m hm)
      have := hall i ((ih i hi).2 hm)
      rw [(h.map j hj).2, (h.map i hi).2] at this
      exact this
    · intro hall m hm
      have hm' := hd m hm
      have := hall (σ m) ((ih m hm').1 hm)
      rw [(h.map j hj).2, (h.map m hm').2]
      exact this
theorem turned_all {c d : List T41} {σ : Int → Int} (h : Turned c d σ) (hc : Unlike c) : (allD d).map σ = allD c := by
  have hu : Unlike d := fun i j hi hj hne => by
    rw [h.len] at hi hj
    have hi' : 0 ≤ (i : Int) ∧ (i : Int) < (c.length : Nat) := by omega
    have hj' : 0 ≤ (j : Int) ∧ (j : Int) < (c.length : Nat) := by omega
    have m1 := h.map i hi'
    have m2 := h.map j hj'
    have hs : (σ i).toNat ≠ (σ j).toNat := fun e => hne (by have := h.inj i j hi' hj' (by omega); omega)
    have := hc _ _ (by omega) (by omega) hs
    have e1 : d.getD i ty41.dflt = at_ c (σ i) := by rw [← m1.2]; unfold at_; rw [Int.toNat_natCast]
    have e2 : d.getD j ty41.dflt = at_ c (σ j) := by rw [← m2.2]; unfold at_; rw [Int.toNat_natCast]
    rw [e1, e2]
    exact this
  have hd : ∀ n ∈ allD d, 0 ≤ n ∧ n < (c.length : Nat) := fun n hn => by
    have := leftN_in (l := d) 6 n (mem_insAll.1 hn)
    rw [h.len] at this
    exact this
  refine sorted_key (fun n => idOf (at_ c n)) ?_ (allD_sorted hc) fun n => ?_
  · refine List.pairwise_map.2 ((allD_sorted hu).imp_of_mem fun {x y} hx hy hxy => ?_)
    rw [(h.map x (hd x hx)).2, (h.map y (hd y hy)).2] at hxy
    exact hxy
  · constructor
    · intro hn
      obtain ⟨j, hj, rfl⟩ := List.mem_map.1 hn
      exact mem_insAll.2 ((turned_left h 6 (by omega) j (hd j hj)).1 (mem_insAll.1 hj))
    · intro hn
      have hn' := mem_insAll.1 hn
      obtain ⟨j, hj, rfl⟩ := h.sur n (leftN_in 6 n hn')
      exact List.mem_map.2 ⟨j, mem_insAll.2 ((turned_left h 6 (by omega) j hj).2 hn'), rfl⟩
theorem turned_hops {c d : List T41} {σ : Int → Int} (h : Turned c d σ) (hc : Unlike c) {links m : List Int} (hl : links.length = c.length) (hm : m.length = c.length) (hlm : ∀ j : Int, 0 ≤ j ∧ j < (c.length : Nat) → m.getD j.toNat 0 = links.getD (σ j).toNat 0) {w : Int} (h1 : 1 ≤ w) (h8 : w ≤ 8) :
    hopsD d m w = hopsD c links w := by
  unfold hopsD
  have e : nsOf m (setD d m w) = nsOf links (setD c links w) := by
    rw [setD_take hl h1 h8, setD_take (by rw [hm, h.len]) h1 h8, ← turned_all h hc, ← List.map_take]
    unfold nsOf
    rw [List.map_map]
    refine List.map_congr_left fun j hj => ?_
    have hd : 0 ≤ j ∧ j < (c.length : Nat) := by
      have := leftN_in (l := d) 6 j (mem_insAll.1 (List.mem_of_mem_take hj))
      rw [h.len] at this
      exact this
    exact hlm j hd
  rw [e]
/-- Turned by so many. -/
theorem rot_getD {α : Type} (c : List α) (d : α) {k j : Nat} (hk : k < c.length) (hj : j < c.length) : (c.drop k ++ c.take k).getD j d = c.getD ((j + k) % c.length) d := by
  rw [List.getD_eq_getElem?_getD, List.getD_eq_getElem?_getD]
  by_cases h : j < c.length - k
  · rw [List.getElem?_append_left (by simp; omega), List.getElem?_drop, Nat.mod_eq_of_lt (by omega), Nat.add_comm]
  · rw [List.getElem?_append_right (by simp; omega), List.length_drop, List.getElem?_take, if_pos (by omega)]
    have : (j + k) % c.length = j - (c.length - k) := by
      rw [Nat.mod_eq_sub_mod (by omega), Nat.mod_eq_of_lt (by omega)]
      omega
    rw [this]
theorem rot_turned (c : List T41) {k : Nat} (hk : k < c.length) : Turned c (c.drop k ++ c.take k) fun j => (((j.toNat + k) % c.length : Nat) : Int) := by
  have hmod : ∀ j : Nat, j < c.length → (j + k) % c.length = if j < c.length - k then j + k else j - (c.length - k) := fun j hj => by
    by_cases h : j < c.length - k
    · rw [if_pos h, Nat.mod_eq_of_lt (by omega)]
    · rw [if_neg h, Nat.mod_eq_sub_mod (by omega), Nat.mod_eq_of_lt (by omega)]
      omega
  refine ⟨by simp; omega, fun j hj => ⟨?_, ?_⟩, fun i j hi hj e => ?_, fun n hn => ?_⟩
  · have := Nat.mod_lt (j.toNat + k) (show 0 < c.length by omega)
    omega
  · unfold at_
    rw [rot_getD c _ hk (by omega), Int.toNat_natCast]
  · have e : (i.toNat + k) % c.length = (j.toNat + k) % c.length := Int.ofNat.inj e
    rw [hmod _ (by omega), hmod _ (by omega)] at e
    split at e <;> split at e <;> omega
  · by_cases h : n.toNat < k
    · refine ⟨((n.toNat + (c.length - k) : Nat) : Int), by omega, ?_⟩
      simp only [Int.toNat_natCast]
      rw [hmod _ (by omega), if_neg (by omega)]
      omega
    · refine ⟨((n.toNat - k : Nat) : Int), by omega, ?_⟩
      simp only [Int.toNat_natCast]
      rw [hmod _ (by omega), if_pos (by omega)]
      omega
theorem getD_set {α : Type} (l : List α) (i j : Nat) (x d : α) (hi : i < l.length) : (l.set i x).getD j d = if i = j then x else l.getD j d := by
  rw [List.getD_eq_getElem?_getD, List.getElem?_set, List.getD_eq_getElem?_getD]
  by_cases e : i = j
  · rw [if_pos e, if_pos e, if_pos (e ▸ hi)]
    rfl
  · rw [if_neg e, if_neg e]
theorem Order_eq (r : List T53) (a b : Int) : Order.F (r, a, b, ()) = some (true, ()) := by
  have hB := Within_eq b 1 8 (by omega) (by omega) (by omega)
  have hcl := candsD_length true r
  have hll := linksD_length r
  have hlr := linksD_in r
  have hfew := candsD_few r
  show Order.b cands.F known.F Within.F Hops.F SameH.F r a b (fun t => Order.l3 cands.F known.F Within.F Hops.F SameH.F FU r a b FU t) = _
  unfold Order.b
  rw [cands_eq]
  simp only [Option.bind_some]
  generalize hc : candsD true r = c at *
  generalize hlk : linksD r = links at *
  unfold Order.l3
  rw [iterN_eq (F := fun _ : Int × List T41 × List Int => some (true, ()))
    (fun s : Int × List T41 × List Int => s.2.2 = links ∧ ∃ i : Nat, s.1 = (i : Int) ∧ i ≤ c.length ∧ s.2.1.length = c.length ∧ (∀ x ∈ s.2.1, FewC x) ∧ ∀ j : Nat, j < i → idOf (s.2.1.getD j ty41.dflt) = 100 - (j : Int)) (fun s : Int × List T41 × List Int => c.length - s.1.toNat)]
  · rintro ⟨s, x, links'⟩ k ⟨h1, i, hi, hle, hxl, hxf, hid⟩ hk
    have h1 : links' = links := h1
    subst h1
    have hi : s = (i : Int) := hi
    subst hi
    have hxl : x.length = c.length := hxl
    have hxf : ∀ y ∈ x, FewC y := hxf
    have hid : ∀ j : Nat, j < i → idOf (x.getD j ty41.dflt) = 100 - (j : Int) := hid
    unfold Order.b3
    simp only
    by_cases hlt : i < c.length
    · have e1 : IntKind.i64.wrap ((100 : Int) - (i : Nat)) = 100 - (i : Int) := by rw [wrap_id] <;> omega
      have e2 : IntKind.u32.wrap ((100 : Int) - (i : Nat)) = 100 - (i : Int) := by rw [IntKind.wrap_u32]; omega
      rw [decide_eq_true (show (i : Int) < (x.length : Nat) by omega), decide_eq_true (show (0 : Int) ≤ (i : Nat) by omega), wrap_succ hlt (by omega), e1, e2]
      simp only [cond_true, Bool.and_self, Int.toNat_natCast]
      refine hk _ ⟨rfl, i + 1, rfl, hlt, by simp [hxl], ?_, ?_⟩ (by simp; omega)
      · intro y hy
        rcases List.mem_or_eq_of_mem_set hy with h | h
        · exact hxf y h
        · have := hxf _ (getD_mem (show i < x.length by omega) ty41.dflt)
          rw [h]
          exact ⟨this.fit, this.cost⟩
      · intro j hj
        show idOf ((x.set i _).getD j ty41.dflt) = _
        rw [getD_set _ _ _ _ _ (by omega)]
        by_cases e : i = j
        · rw [if_pos e, ← e]
        · rw [if_neg e]
          exact hid j (by omega)
    · have hie : i = c.length := by omega
      rw [decide_eq_false (show ¬ (i : Int) < (x.length : Nat) by omega), cond_false]
      by_cases h0 : x.length = 0
      · rw [show (((x.length : Nat) : Int) == 0) = true from by simp; exact List.eq_nil_of_length_eq_zero h0, cond_true, known_eq]
        rfl
      · have hxlen : x.length ≤ 12 := by omega
        have e1 : IntKind.i64.wrap (((x.length : Nat) : Int) - 1) = ((x.length : Nat) : Int) - 1 := by rw [wrap_id] <;> omega
        have hA := Within_eq a 0 (((x.length : Nat) : Int) - 1) (by omega) (by omega) (by omega)
        rw [show (((x.length : Nat) : Int) == 0) = false from by simp; intro e; exact h0 (by rw [e]; rfl), cond_false, e1, hA.1]
        simp only [Option.bind_some]
        obtain ⟨q, hq⟩ : ∃ q : Nat, withinD a 0 (((x.length : Nat) : Int) - 1) = (q : Int) := ⟨(withinD a 0 (((x.length : Nat) : Int) - 1)).toNat, by omega⟩
        rw [hq] at hA ⊢
        have hqx : q < x.length := by omega
        rw [decide_eq_true (show (0 : Int) ≤ (q : Nat) by omega), decide_eq_true (show (q : Int) ≤ (x.length : Nat) by omega), decide_eq_true (show ((x.length : Nat) : Int) ≤ (x.length : Nat) by omega), decide_eq_true (show (q : Int) ≤ (links'.length : Nat) by omega),
          decide_eq_true (show ((links'.length : Nat) : Int) ≤ (links'.length : Nat) by omega)]
        simp only [Int.toNat_natCast, List.drop_zero, Nat.sub_zero, List.nil_append, Nat.zero_add, Bool.and_self, cond_true]
        rw [show (x.drop q).take (x.length - q) = x.drop q from List.take_of_length_le (by simp), show (links'.drop q).take (links'.length - q) = links'.drop q from List.take_of_length_le (by simp)]
        rw [decide_eq_true (show (x.drop q).length * 112 ≤ maxBytes by unfold maxBytes; simp; omega), decide_eq_true (show ((x.drop q).length + (x.take q).length) * 112 ≤ maxBytes by unfold maxBytes; simp; omega),
          decide_eq_true (show (links'.drop q).length * 8 ≤ maxBytes by unfold maxBytes; simp; omega), decide_eq_true (show ((links'.drop q).length + (links'.take q).length) * 8 ≤ maxBytes by unfold maxBytes; simp; omega)]
        simp only [cond_true]
        rw [hB.1]
        simp only [Option.bind_some]
        have hu : Unlike x := fun i' j' hi' hj' hne => by
          rw [hid i' (by omega), hid j' (by omega)]
          omega
        have hf1 : ∀ y ∈ x, Fit y := fun y hy => (hxf y hy).fit
        have hf2 : ∀ y ∈ x.drop q ++ x.take q, Fit y := fun y hy => (List.mem_append.1 hy).elim (fun h => hf1 y (List.mem_of_mem_drop h)) fun h => hf1 y (List.mem_of_mem_take h)
        have hl2 : ∀ n ∈ links'.drop q ++ links'.take q, 0 ≤ n ∧ n ≤ 1000000 := fun y hy => (List.mem_append.1 hy).elim (fun h => hlr y (List.mem_of_mem_drop h)) fun h => hlr y (List.mem_of_mem_take h)
        have hlx : links'.length = x.length := by omega
        have heq := turned_hops (rot_turned x hqx) hu (links := links') (m := links'.drop q ++ links'.take q) hlx (by simp; omega) (fun j hj => by
          rw [rot_getD links' 0 (by omega) (by omega), Int.toNat_natCast, hlx]) hB.2.1 hB.2.2
        rw [hopsD_eq hf1 (by omega) hlr, hopsD_eq hf2 (by simp; omega) hl2, heq]
        simp only [Option.bind_some]
        have hh8 := hopsD_length (l := x) (links := links') (withinD b 1 8)
        rw [SameH_eq _ _ (by omega), known_eq]
        simp
  · exact ⟨rfl, 0, rfl, Nat.zero_le _, rfl, hfew, fun j hj => by omega⟩
  · exact FU_lt (by simp; omega)
end BE
