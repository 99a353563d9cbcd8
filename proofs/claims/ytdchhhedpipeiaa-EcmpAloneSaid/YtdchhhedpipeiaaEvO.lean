/- Operations hang on what they touch alone, and leave the rest. -/
import Derived.Test.YtdchhhedpipeiaaEvN
set_option linter.unusedVariables false
set_option linter.unusedSimpArgs false
namespace Go.Ev

variable {E : Env} {s s1 s2 : St} {key : Nat} {o : Oper} {st st1 st2 : Store}

theorem storeE_congr {T : TypeId} {a : AV} {v : Slot} (ha : ∀ k ∈ a.keys, st1.get k = st2.get k) (hv : ∀ k ∈ v.keys, st1.get k = st2.get k) {r : Store} (he : storeE E T a v st1 = some r) : ∃ r', storeE E T a v st2 = some r' ∧ ∀ k, st1.get k = st2.get k → r.get k = r'.get k := by
  have hs : ∀ t, v.as st2 t = v.as st1 t := fun t => (slot_congr hv).symm
  unfold storeE at he ⊢
  simp only [hs]
  split at he
  · rename_i j i sz off
    rw [← ha j (by simp [AV.keys])]
    split at he
    · split at he
      · split at he
        · split at he
          · rename_i hc
            injection he with he
            subst he
            exact ⟨_, by rw [if_pos hc], fun k h => put_pw h⟩
          · cases he
        · cases he
      · cases he
    · split at he
      · rename_i u hu
        split at he
        · split at he
          · rename_i hc
            obtain ⟨z, hz, rfl⟩ := Option.map_eq_some_iff.1 he
            exact ⟨_, by rw [if_pos hc, hz]; rfl, fun k h => put_pw (fz_pw (b := u.hasSl) h)⟩
          · cases he
        · cases he
      · cases he
    · cases he
  · cases he

theorem sliceE_congr {e : Ty} {a : AV} {len : Nat} {l h : Int} (ha : ∀ k ∈ a.keys, st1.get k = st2.get k) {c : Bool} {v : Slot} {r : Store} (he : sliceE st1 e a len l h = some (.val c v r)) : r = st1 ∧ sliceE st2 e a len l h = some (.val c v st2) := by
  unfold sliceE at he ⊢
  split at he
  · split at he
    · rename_i hc
      simp only [Option.some.injEq, Eff.val.injEq] at he
      obtain ⟨rfl, rfl, rfl⟩ := he
      exact ⟨rfl, by simp [hc]⟩
    · cases he
  · simp only [Option.some.injEq, Eff.val.injEq] at he
    obtain ⟨rfl, rfl, rfl⟩ := he
    exact ⟨rfl, rfl⟩
  · rename_i k
    rw [esize_congr (ha k (by simp [AV.keys]))] at he
    split at he
    · rename_i hc
      simp only [Option.some.injEq, Eff.val.injEq] at he
      obtain ⟨rfl, rfl, rfl⟩ := he
      exact ⟨rfl, by simp [hc]⟩
    · cases he
  · split at he
    · rename_i hc
      simp only [Option.some.injEq, Eff.val.injEq] at he
      obtain ⟨rfl, rfl, rfl⟩ := he
      exact ⟨rfl, by simp [hc]⟩
    · cases he
  · cases he

theorem indexE_congr {e : Ty} {a : AV} {i : Int} (ha : ∀ k ∈ a.keys, st1.get k = st2.get k) {c : Bool} {v : Slot} {r : Store} (he : indexE st1 e a i = some (.val c v r)) : r = st1 ∧ indexE st2 e a i = some (.val c v st2) := by
  unfold indexE at he ⊢
  split at he
  · rename_i k
    have hk := ha k (by simp [AV.keys])
    rw [len_congr hk, esize_congr hk] at he
    split at he
    · rename_i n hn
      try simp only [hn]
      split at he
      · rename_i hc
        simp only [Option.some.injEq, Eff.val.injEq] at he
        obtain ⟨rfl, rfl, rfl⟩ := he
        exact ⟨rfl, by simp [hc]⟩
      · cases he
    · cases he
  · split at he
    · rename_i hc
      simp only [Option.some.injEq, Eff.val.injEq] at he
      obtain ⟨rfl, rfl, rfl⟩ := he
      exact ⟨rfl, by simp [hc]⟩
    · cases he
  · split at he
    · rename_i hc
      simp only [Option.some.injEq, Eff.val.injEq] at he
      obtain ⟨rfl, rfl, rfl⟩ := he
      exact ⟨rfl, by simp [hc]⟩
    · cases he
  · cases he

theorem convE_congr {src dst : TypeId} {x : Slot} {c : Bool} {v : Slot} {r : Store} (he : convE E src dst x st1 = some (.val c v r)) : r = st1 ∧ convE E src dst x st2 = some (.val c v st2) := by
  unfold convE at he ⊢
  split at he
  · cases he
  · split at he
    · split at he
      · simp only [Option.some.injEq, Eff.val.injEq] at he
        obtain ⟨rfl, rfl, rfl⟩ := he
        exact ⟨rfl, rfl⟩
      · simp only [Option.some.injEq, Eff.val.injEq] at he
        obtain ⟨rfl, rfl, rfl⟩ := he
        exact ⟨rfl, rfl⟩
      · cases he
    · split at he
      · simp only [Option.some.injEq, Eff.val.injEq] at he
        obtain ⟨rfl, rfl, rfl⟩ := he
        exact ⟨rfl, rfl⟩
      · cases he
    · cases he

theorem appendE_congr {e : Ty} {by_ : Nat} {a b : AV} (ha : ∀ k ∈ a.keys, st1.get k = st2.get k) (hb : ∀ k ∈ b.keys, st1.get k = st2.get k) {c : Bool} {v : Slot} {r : Store} (he : appendE st1 key e by_ a b = some (.val c v r)) :
    ∃ r', appendE st2 key e by_ a b = some (.val c v r') ∧ ∀ k, st1.get k = st2.get k → r.get k = r'.get k := by
  unfold appendE at he ⊢
  rw [as_congr hb] at he
  split at he
  · cases he
  · rename_i ys hys
    try simp only [hys]
    split at he
    · simp only [Option.some.injEq, Eff.val.injEq] at he
      obtain ⟨rfl, rfl, rfl⟩ := he
      exact ⟨_, rfl, fun k h => put_pw h⟩
    · rename_i j
      have hj := ha j (by simp [AV.keys])
      rw [wrow_congr hj] at he
      split at he
      · cases he
      · rename_i hc
        split at he
        · rename_i xs hxs
          simp only [Option.some.injEq, Eff.val.injEq] at he
          obtain ⟨rfl, rfl, rfl⟩ := he
          exact ⟨_, by first | (simp only [hc, hxs]; done) | (simp only [hc, hxs]; rfl) | rfl, fun k h => put_pw (erase_pw h)⟩
        · cases he
    · rename_i j sz lo n
      have hj := ha j (by simp [AV.keys])
      rw [wrow_congr hj] at he
      split at he
      · cases he
      · rename_i hc
        split at he
        · rename_i hsz
          split at he
          · rename_i xs hxs
            simp only [Option.some.injEq, Eff.val.injEq] at he
            obtain ⟨rfl, rfl, rfl⟩ := he
            exact ⟨_, by first | (simp only [hc, hxs, if_pos hsz]; done) | (simp only [hc, hxs, if_pos hsz]; rfl) | rfl, fun k h => put_pw (erase_pw h)⟩
          · cases he
        · cases he
    · cases he

theorem capKeys_congr (h : Same o s1 s2) : ∀ (l : List Operand) {ks : List Nat}, (∀ x ∈ l, x ∈ o.op.operands.toList) → capKeys s1 l = some ks → capKeys s2 l = some ks
  | [], ks, _, he => he
  | x :: r, ks, hm, he => by
    simp only [capKeys] at he ⊢
    have hx := hm x List.mem_cons_self
    rw [h.one hx]
    split at he
    · rename_i k hk
      have hsame : s1.st.get k = s2.st.get k := by
        have hev : s1.ev x = some (.one (.ref k 0 0 0)) := by
          unfold St.one at hk
          split at hk
          · rename_i a ha
            injection hk with hk
            subst hk
            exact ha
          · cases hk
        exact h.keys hx hev k (by simp [Slot.keys, AV.keys])
      try rw [hk]
      try simp only []
      rw [← hsame]
      split at he
      · rename_i cs hg
        try rw [hg]
        try simp only []
        split at he
        · rename_i m hmm
          rw [capKeys_congr h r (fun y hy => hm y (List.mem_cons_of_mem _ hy)) hmm]
          exact he
        · cases he
      · cases he
    · cases he

theorem map_congr {k : Nat} {kt vt : Ty} (h : st1.get k = st2.get k) : st1.map k kt vt = st2.map k kt vt := by unfold Store.map; rw [h]
theorem lookupE_congr {T : TypeId} {a : AV} {ix : Slot} {ok : Bool} (ha : ∀ k ∈ a.keys, st1.get k = st2.get k) (hi : ∀ k ∈ ix.keys, st1.get k = st2.get k) : lookupE E T a ix ok st1 = lookupE E T a ix ok st2 := by
  unfold lookupE
  split
  · rename_i k
    have hk := ha k (by simp [AV.keys])
    split
    · rename_i kt vt hT
      rw [map_congr hk, slot_congr (t := kt) hi]
    · rfl
  · rfl
theorem mapUpdateE_congr {T : TypeId} {a : AV} {ix y : Slot} (ha : ∀ k ∈ a.keys, st1.get k = st2.get k) (hi : ∀ k ∈ ix.keys, st1.get k = st2.get k) (hy : ∀ k ∈ y.keys, st1.get k = st2.get k) {r : Store} (he : mapUpdateE E T a ix y st1 = some r) :
    ∃ r', mapUpdateE E T a ix y st2 = some r' ∧ ∀ k, st1.get k = st2.get k → r.get k = r'.get k := by
  unfold mapUpdateE at he ⊢
  split at he
  · rename_i k
    have hk := ha k (by simp [AV.keys])
    split at he
    · rename_i kt vt hT
      rw [map_congr hk, slot_congr (t := kt) hi, slot_congr (t := vt) hy] at he
      split at he
      · rename_i l c hm
        split at he
        · rename_i kx hkx
          split at he
          · rename_i vx hvx
            injection he with he
            subst he
            exact ⟨_, by first | rfl | (simp only [hm, hkx, hvx]; done) | (simp only [hm, hkx, hvx]; rfl), fun j hj => put_pw (fz_pw (b := vt.hasSl) (l := y.rows) hj)⟩
          · cases he
        · cases he
      · cases he
    · cases he
  · cases he

theorem val_congr (h : Same o s1 s2) {c : Bool} {v : Slot} {r : Store} (he : evalOp E key o s1 = some (.val c v r)) : ∃ r', evalOp E key o s2 = some (.val c v r') ∧ ∀ k, s1.st.get k = s2.st.get k → r.get k = r'.get k := by
  have hops := h
  unfold evalOp at he ⊢
  split at he
  case h_1 x ho =>
    have hx : x ∈ o.op.operands.toList := by rw [ho]; simp [Op.operands]
    rw [h.ev x hx]
    obtain ⟨sl, hsl, e⟩ := Option.map_eq_some_iff.1 he
    simp only [Eff.val.injEq] at e
    obtain ⟨rfl, rfl, rfl⟩ := e
    exact ⟨_, by rw [hsl]; rfl, fun k h => h⟩
  case h_2 x ho =>
    have hx : x ∈ o.op.operands.toList := by rw [ho]; simp [Op.operands]
    rw [h.ev x hx]
    obtain ⟨sl, hsl, e⟩ := Option.map_eq_some_iff.1 he
    simp only [Eff.val.injEq] at e
    obtain ⟨rfl, rfl, rfl⟩ := e
    exact ⟨_, by rw [hsl]; rfl, fun k h => h⟩
  case h_3 t ho =>
    obtain ⟨cs, hz, e⟩ := Option.map_eq_some_iff.1 he
    simp only [Eff.val.injEq] at e
    obtain ⟨rfl, rfl, rfl⟩ := e
    exact ⟨_, by rw [hz]; rfl, fun k h => put_pw h⟩
  case h_4 t x ho =>
    have hx : x ∈ o.op.operands.toList := by rw [ho]; simp [Op.operands]
    rw [h.ev x hx]
    split at he
    · rename_i sl hsl
      split at he
      · rename_i cs hc
        simp only [Option.some.injEq, Eff.val.injEq] at he
        obtain ⟨rfl, rfl, rfl⟩ := he
        exact ⟨_, by first | (simp only [hsl, hc]; done) | (simp only [hsl, hc]; rfl) | rfl, fun k h => put_pw h⟩
      · cases he
    · cases he
  case h_5 t parts ho =>
    have hp : ∀ p ∈ parts.toList, s2.ev p.2 = s1.ev p.2 := fun p hp => h.ev _ (by rw [ho]; simp only [Op.operands, List.mem_map]; exact ⟨p, hp, rfl⟩)
    split at he
    · rename_i cs hz
      split at he
      · rename_i hst
        obtain ⟨l, hl, e⟩ := Option.map_eq_some_iff.1 he
        simp only [Eff.val.injEq] at e
        obtain ⟨rfl, rfl, rfl⟩ := e
        exact ⟨_, by first | (simp only [hz, hst, buildParts_congr hp, hl]; done) | (simp only [hz, hst, buildParts_congr hp, hl]; rfl) | rfl, fun k h => h⟩
      · cases he
    · cases he
  case h_6 t len parts ho =>
    have hp : ∀ p ∈ parts.toList, p.2 ∈ o.op.operands.toList := fun p hp => by rw [ho]; simp only [Op.operands, List.mem_map]; exact ⟨p, hp, rfl⟩
    split at he
    · rename_i e hT
      split at he
      · rename_i xs hxs
        split at he
        · rename_i hc
          simp only [Option.some.injEq, Eff.val.injEq] at he
          obtain ⟨rfl, rfl, rfl⟩ := he
          refine ⟨_, by first | (simp only [hT, partsAs_congr (s1 := s1) (s2 := s2) (fun p q => h.ev _ (hp p q)) (fun p q sl hs => h.keys (hp p q) hs), hxs, partsRows_congr (s1 := s1) (s2 := s2) (fun p q => h.ev _ (hp p q)), if_pos hc]; done) | (simp only [hT, partsAs_congr (s1 := s1) (s2 := s2) (fun p q => h.ev _ (hp p q)) (fun p q sl hs => h.keys (hp p q) hs), hxs, partsRows_congr (s1 := s1) (s2 := s2) (fun p q => h.ev _ (hp p q)), if_pos hc]; rfl) | rfl, fun k h => put_pw (fz_pw (b := e.hasSl) h)⟩
        · cases he
      · cases he
    · cases he
  case h_7 t x ho =>
    have hx : x ∈ o.op.operands.toList := by rw [ho]; simp [Op.operands]
    rw [h.one hx]
    split at he
    · rename_i av hav
      obtain ⟨sl, hl, e⟩ := Option.map_eq_some_iff.1 he
      simp only [Eff.val.injEq] at e
      obtain ⟨rfl, rfl, rfl⟩ := e
      exact ⟨_, by first | (simp only [hav, ← loadE_congr (h.okeys hx hav), hl]; done) | (simp only [hav, ← loadE_congr (h.okeys hx hav), hl]; rfl) | rfl, fun k h => h⟩
    · cases he
  case h_8 t x y ho =>
    have hx : x ∈ o.op.operands.toList := by rw [ho]; simp [Op.operands]
    have hy : y ∈ o.op.operands.toList := by rw [ho]; simp [Op.operands]
    rw [h.one hx, h.ev y hy]
    split at he
    · rename_i av hav
      split at he
      · rename_i sl hsl
        obtain ⟨st', hl, e⟩ := Option.map_eq_some_iff.1 he
        simp only [Eff.val.injEq] at e
        obtain ⟨rfl, rfl, rfl⟩ := e
        obtain ⟨r', h1, h2⟩ := storeE_congr (h.okeys hx hav) (h.keys hy hsl) hl
        exact ⟨r', by first | (simp only [hav, hsl, h1]; done) | (simp only [hav, hsl, h1]; rfl) | rfl, h2⟩
      · cases he
    · cases he
  case h_9 x ho =>
    have hx : x ∈ o.op.operands.toList := by rw [ho]; simp [Op.operands]
    rw [h.one hx]
    split at he
    · rename_i p q r t hav
      simp only [Option.some.injEq, Eff.val.injEq] at he
      obtain ⟨rfl, rfl, rfl⟩ := he
      exact ⟨_, by first | (simp only [hav]; done) | (simp only [hav]; rfl) | rfl, fun k h => h⟩
    · rename_i p q r hav
      simp only [Option.some.injEq, Eff.val.injEq] at he
      obtain ⟨rfl, rfl, rfl⟩ := he
      exact ⟨_, by first | (simp only [hav]; done) | (simp only [hav]; rfl) | rfl, fun k h => h⟩
    · rename_i p q hav
      simp only [Option.some.injEq, Eff.val.injEq] at he
      obtain ⟨rfl, rfl, rfl⟩ := he
      exact ⟨_, by first | (simp only [hav]; done) | (simp only [hav]; rfl) | rfl, fun k h => h⟩
    · cases he
  case h_10 op t x y t' ho =>
    have hx : x ∈ o.op.operands.toList := by rw [ho]; simp [Op.operands]
    have hy : y ∈ o.op.operands.toList := by rw [ho]; simp [Op.operands]
    rw [h.ev x hx, h.ev y hy]
    split at he
    · rename_i sx hsx
      split at he
      · rename_i sy hsy
        obtain ⟨cv, hb, e⟩ := Option.map_eq_some_iff.1 he
        simp only [Eff.val.injEq] at e
        obtain ⟨rfl, rfl, rfl⟩ := e
        exact ⟨_, by first | (simp only [hsx, hsy, ← binE_congr (h.keys hx hsx) (h.keys hy hsy), hb]; done) | (simp only [hsx, hsy, ← binE_congr (h.keys hx hsx) (h.keys hy hsy), hb]; rfl) | rfl, fun k h => h⟩
      · cases he
    · cases he
  case h_11 op t x ho =>
    have hx : x ∈ o.op.operands.toList := by rw [ho]; simp [Op.operands]
    rw [h.bool hx, h.int hx]
    split at he
    · obtain ⟨b, hb, e⟩ := Option.map_eq_some_iff.1 he
      simp only [Eff.val.injEq] at e
      obtain ⟨rfl, rfl, rfl⟩ := e
      exact ⟨_, by first | (simp only [hb]; done) | (simp only [hb]; rfl) | rfl, fun k h => h⟩
    · obtain ⟨b, hb, e⟩ := Option.map_eq_some_iff.1 he
      simp only [Eff.val.injEq] at e
      obtain ⟨rfl, rfl, rfl⟩ := e
      exact ⟨_, by first | (simp only [hb]; done) | (simp only [hb]; rfl) | rfl, fun k h => h⟩
    · obtain ⟨b, hb, e⟩ := Option.map_eq_some_iff.1 he
      simp only [Eff.val.injEq] at e
      obtain ⟨rfl, rfl, rfl⟩ := e
      exact ⟨_, by first | (simp only [hb]; done) | (simp only [hb]; rfl) | rfl, fun k h => h⟩
    · cases he
  case h_12 src dst x ho =>
    have hx : x ∈ o.op.operands.toList := by rw [ho]; simp [Op.operands]
    rw [h.ev x hx]
    split at he
    · rename_i sl hsl
      obtain ⟨rfl, h2⟩ := convE_congr (st2 := s2.st) he
      exact ⟨_, by first | exact h2 | (simp only [hsl]; exact h2), fun k h => h⟩
    · cases he
  case h_13 t x y ho =>
    have hx : x ∈ o.op.operands.toList := by rw [ho]; simp [Op.operands]
    have hy : y ∈ o.op.operands.toList := by rw [ho]; simp [Op.operands]
    rw [h.int hx, h.int hy]
    split at he
    · rename_i e hT
      split at he
      · rename_i by_ hby
        split at he
        · rename_i k n hn
          split at he
          · rename_i k' m hm
            simp only [Option.some.injEq, Eff.val.injEq] at he
            obtain ⟨rfl, rfl, rfl⟩ := he
            exact ⟨_, by first | (simp only [hT, hby, hn, hm]; done) | (simp only [hT, hby, hn, hm]; rfl) | rfl, fun k h => put_pw h⟩
          · cases he
        · cases he
      · cases he
    · cases he
  case h_14 t x lo hi mx ho =>
    have hx : x ∈ o.op.operands.toList := by rw [ho]; simp [Op.operands]
    have hlo : ∀ y, lo = some y → s2.int y = s1.int y := fun y hy => h.int (by rw [ho, hy]; simp [Op.operands])
    have hhi : ∀ y, hi = some y → s2.int y = s1.int y := fun y hy => h.int (by rw [ho, hy]; simp [Op.operands])
    rw [h.one hx, bnd_congr hlo]
    split at he
    · split at he
      · rename_i e hT
        split at he
        · rename_i av hav
          split at he
          · rename_i len hl
            split at he
            · rename_i l hl2
              split at he
              · rename_i r' hr
                obtain ⟨rfl, h2⟩ := sliceE_congr (st2 := s2.st) (h.okeys hx hav) he
                exact ⟨_, by first | exact h2 | (simp only [hT, hav, ← lenOf_congr (h.okeys hx hav), hl, hl2, bnd_congr hhi, hr]; exact h2), fun k h => h⟩
              · cases he
            · cases he
          · cases he
        · cases he
      · cases he
    · cases he
  case h_15 t x f ho =>
    have hx : x ∈ o.op.operands.toList := by rw [ho]; simp [Op.operands]
    rw [h.one hx]
    split at he
    · rename_i d n hf
      split at he
      · rename_i k i sz off hav
        simp only [Option.some.injEq, Eff.val.injEq] at he
        obtain ⟨rfl, rfl, rfl⟩ := he
        exact ⟨_, by first | (simp only [hf, hav]; done) | (simp only [hf, hav]; rfl) | rfl, fun k h => h⟩
      · rename_i e y off hav
        simp only [Option.some.injEq, Eff.val.injEq] at he
        obtain ⟨rfl, rfl, rfl⟩ := he
        exact ⟨_, by first | (simp only [hf, hav]; done) | (simp only [hf, hav]; rfl) | rfl, fun k h => h⟩
      · cases he
    · cases he
  case h_16 t x ix ho =>
    have hx : x ∈ o.op.operands.toList := by rw [ho]; simp [Op.operands]
    have hix : ix ∈ o.op.operands.toList := by rw [ho]; simp [Op.operands]
    rw [h.one hx, h.int hix]
    split at he
    · rename_i e hT
      split at he
      · rename_i av hav
        split at he
        · rename_i k i hi
          obtain ⟨rfl, h2⟩ := indexE_congr (st2 := s2.st) (h.okeys hx hav) he
          exact ⟨_, by first | exact h2 | (simp only [hT, hav, hi]; exact h2), fun k h => h⟩
        · cases he
      · cases he
    · cases he
  case h_17 x i ho =>
    have hx : x ∈ o.op.operands.toList := by rw [ho]; simp [Op.operands]
    rw [h.ev x hx]
    split at he
    · rename_i l hl
      obtain ⟨av, ha, e⟩ := Option.map_eq_some_iff.1 he
      simp only [Eff.val.injEq] at e
      obtain ⟨rfl, rfl, rfl⟩ := e
      exact ⟨_, by first | (simp only [hl, ha]; done) | (simp only [hl, ha]; rfl) | rfl, fun k h => h⟩
    · cases he
  case h_18 c ho =>
    have hargs : ∀ x ∈ c.args.toList, x ∈ o.op.operands.toList := fun x hx => by
      rw [ho]
      simp only [Op.operands, Call.operands, Array.toList_append, List.mem_append]
      exact .inr hx
    unfold callE at he ⊢
    split at he
    · rename_i hc
      split at he
      · rename_i x hx
        have hxo := hargs x (by rw [hx]; simp)
        try simp only [h.one hxo]
        split at he
        · rename_i av hav
          split at he
          · rename_i T hT
            split at he
            · rename_i e hty
              obtain ⟨n, hn, e⟩ := Option.map_eq_some_iff.1 he
              simp only [Eff.val.injEq] at e
              obtain ⟨rfl, rfl, rfl⟩ := e
              exact ⟨_, by first | (simp only [hav, hT, hty, ← lenOf_congr (h.okeys hxo hav), hn]; done) | (simp only [hav, hT, hty, ← lenOf_congr (h.okeys hxo hav), hn]; rfl) | rfl, fun k h => h⟩
            · split at he
              · rename_i kt vt hm
                split at he
                · rename_i k0
                  split at he
                  · rename_i l n hl
                    simp only [Option.some.injEq, Eff.val.injEq] at he
                    obtain ⟨rfl, rfl, rfl⟩ := he
                    have hk0 := h.okeys hxo hav k0 (by simp [AV.keys])
                    rw [map_congr hk0] at hl
                    refine ⟨s2.st, ?_, fun k h => h⟩
                    simp only [hl]
                  · cases he
                · cases he
              · cases he
          · cases he
        · cases he
      · cases he
    · rename_i hc
      split at he
      · rename_i x y hx
        have hxo := hargs x (by rw [hx]; simp)
        have hyo := hargs y (by rw [hx]; simp)
        try simp only [h.one hxo, h.one hyo]
        split at he
        · rename_i av hav
          split at he
          · rename_i bv hbv
            split at he
            · rename_i T T' hTT
              split at he
              · rename_i e hty
                split at he
                · rename_i e' hty'
                  split at he
                  · rename_i by_ hby
                    obtain ⟨r', h1, h2⟩ := appendE_congr (h.okeys hxo hav) (h.okeys hyo hbv) he
                    exact ⟨r', by first | exact h1 | (simp only [hav, hbv, hTT, hty, hty', hby]; exact h1), h2⟩
                  · cases he
                · cases he
              · cases he
            · cases he
          · cases he
        · cases he
      · cases he
    · rename_i hc
      split at he
      · rename_i x y hx
        have hxo := hargs x (by rw [hx]; simp)
        have hyo := hargs y (by rw [hx]; simp)
        try simp only [h.int hxo, h.int hyo]
        split at he
        · rename_i k m hm
          split at he
          · rename_i k' n hn
            simp only [Option.some.injEq, Eff.val.injEq] at he
            obtain ⟨rfl, rfl, rfl⟩ := he
            exact ⟨_, by first | (simp only [hm, hn]; done) | (simp only [hm, hn]; rfl) | rfl, fun k h => h⟩
          · cases he
        · cases he
      · cases he
    · rename_i hc
      split at he
      · rename_i x y hx
        have hxo := hargs x (by rw [hx]; simp)
        have hyo := hargs y (by rw [hx]; simp)
        try simp only [h.int hxo, h.int hyo]
        split at he
        · rename_i k m hm
          split at he
          · rename_i k' n hn
            simp only [Option.some.injEq, Eff.val.injEq] at he
            obtain ⟨rfl, rfl, rfl⟩ := he
            exact ⟨_, by first | (simp only [hm, hn]; done) | (simp only [hm, hn]; rfl) | rfl, fun k h => h⟩
          · cases he
        · cases he
      · cases he
    · rename_i hc
      split at he
      · rename_i x y hx
        have hxo := hargs x (by rw [hx]; simp)
        have hyo := hargs y (by rw [hx]; simp)
        simp only [h.one hxo, h.ev y hyo]
        split at he
        · rename_i k0 hav
          have hk0 := h.okeys hxo hav k0 (by simp [AV.keys])
          split at he
          · rename_i T hT
            split at he
            · rename_i kt vt hm
              split at he
              · rename_i l n hl
                rw [map_congr hk0] at hl
                split at he
                · rename_i sl hy
                  simp only [hl]
                  rw [slot_congr (t := kt) (h.keys hyo hy)] at he
                  split at he
                  · rename_i kx hkx
                    simp only [Option.some.injEq, Eff.val.injEq] at he
                    obtain ⟨rfl, rfl, rfl⟩ := he
                    exact ⟨_, by first | rfl | (simp only [hkx]; done) | (simp only [hkx]; rfl), fun k h => put_pw h⟩
                  · cases he
                · cases he
              · cases he
            · cases he
          · cases he
        · cases he
      · cases he
    · cases he
  case h_19 fn first captured ho =>
    split at he
    · split at he
      · rename_i hf0
        split at he
        · rename_i ks hks
          simp only [Option.some.injEq, Eff.val.injEq] at he
          obtain ⟨rfl, rfl, rfl⟩ := he
          have hcap : capKeys s2 captured.toList = some ks := capKeys_congr h captured.toList (fun x hx => by rw [ho]; simp only [Op.operands, Array.toList_append, List.mem_append]; exact .inr hx) hks
          exact ⟨_, by simp only [hf0, if_true, hcap], fun k h => h⟩
        · cases he
      · cases he
    · cases he
  case h_20 t r0 ho =>
    split at he
    · split at he
      · rename_i kt vt hm
        simp only [Option.some.injEq, Eff.val.injEq] at he
        obtain ⟨rfl, rfl, rfl⟩ := he
        exact ⟨_, by simp only [hm], fun k h => put_pw h⟩
      · cases he
    · cases he
  case h_21 t x ix cok ho =>
    have hx : x ∈ o.op.operands.toList := by rw [ho]; simp [Op.operands]
    have hi : ix ∈ o.op.operands.toList := by rw [ho]; simp [Op.operands]
    rw [h.one hx, h.ev ix hi]
    split at he
    · rename_i av hav
      split at he
      · rename_i sl hsl
        obtain ⟨v1, hl, e⟩ := Option.map_eq_some_iff.1 he
        simp only [Eff.val.injEq] at e
        obtain ⟨rfl, rfl, rfl⟩ := e
        refine ⟨s2.st, ?_, fun k h => h⟩
        simp only [← lookupE_congr (h.okeys hx hav) (h.keys hi hsl), hl, Option.map_some]
      · cases he
    · cases he
  case h_22 t x ix y ho =>
    have hx : x ∈ o.op.operands.toList := by rw [ho]; simp [Op.operands]
    have hi : ix ∈ o.op.operands.toList := by rw [ho]; simp [Op.operands]
    have hy : y ∈ o.op.operands.toList := by rw [ho]; simp [Op.operands]
    rw [h.one hx, h.ev ix hi, h.ev y hy]
    split at he
    · rename_i av hav
      split at he
      · rename_i sl hsl
        split at he
        · rename_i vy hvy
          obtain ⟨r1, hl, e⟩ := Option.map_eq_some_iff.1 he
          simp only [Eff.val.injEq] at e
          obtain ⟨rfl, rfl, rfl⟩ := e
          obtain ⟨r', h1, h2⟩ := mapUpdateE_congr (h.okeys hx hav) (h.keys hi hsl) (h.keys hy hvy) hl
          refine ⟨r', ?_, h2⟩
          simp only [h1, Option.map_some]
        · cases he
      · cases he
    · cases he
  case h_23 => cases he
end Go.Ev
