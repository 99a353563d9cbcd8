/- Maps. -/
import Derived.Test.YtdchhhedpipeiaaEvK
import Derived.MapKept
import Derived.Laws.StructEq
set_option linter.unusedVariables false
set_option linter.unusedSimpArgs false
namespace Go.Ev
open Go.RowKit

variable {P : Program} {E : Env} {w0 : Base} {w : World} {S0 : Nat → Prop} {hv : Hv} {s : St} {a : Act} {key : Nat} {o : Oper}

/-! ### Keys -/
theorem bytes_of_beq {x y : ByteArray} (h : (x == y) = true) : x = y := by
  rw [beq_toListBytes, ByteArray.toList_eq, ByteArray.toList_eq] at h
  have := eq_of_beq h
  obtain ⟨⟨a⟩⟩ := x
  obtain ⟨⟨b⟩⟩ := y
  simp at this
  rw [this]
theorem bytes_beq (x : ByteArray) : (x == x) = true := by rw [beq_toListBytes]; simp
theorem eqDen_keyed : ∀ {k : Ty} (x y : k.den), k.keyed = true → eqDen k x y = some (keyEq k x y)
  | .int _, _, _, _ => rfl
  | .bool, _, _, _ => rfl
  | .str, _, _, _ => rfl
  | .unit, _, _, _ => rfl
  | .one a, x, y, h => eqDen_keyed (k := a) x y h
  | .pair a b, x, y, h => by
    simp only [Ty.keyed, Bool.and_eq_true] at h
    have h1 := eqDen_keyed (k := a) x.1 y.1 h.1
    have h2 := eqDen_keyed (k := b) x.2 y.2 h.2
    have e : eqDen (.pair a b) x y = some (keyEq a x.1 y.1 && keyEq b x.2 y.2) := by simp only [eqDen, h1, h2]
    unfold keyEq at e ⊢
    rw [e]
    rfl
  | .f64, _, _, h => by cases h
  | .sl _, _, _, h => by cases h
theorem keyEq_pair {a b : Ty} (x y : (Ty.pair a b).den) (h : (Ty.pair a b).keyed = true) : keyEq (.pair a b) x y = (keyEq a x.1 y.1 && keyEq b x.2 y.2) := by
  have h' := h
  simp only [Ty.keyed, Bool.and_eq_true] at h'
  have h1 := eqDen_keyed (k := a) x.1 y.1 h'.1
  have h2 := eqDen_keyed (k := b) x.2 y.2 h'.2
  have e : eqDen (.pair a b) x y = some (keyEq a x.1 y.1 && keyEq b x.2 y.2) := by simp only [eqDen, h1, h2]
  have := eqDen_keyed x y h
  rw [e] at this
  exact (Option.some.inj this).symm

theorem keyed_same {S S' : Nat → Prop} : ∀ {k : Ty} {x y : k.den} {cx cy : List Value}, k.keyed = true → Rep w S k x cx → Rep w S' k y cy → keyEq k x y = true → cx = cy
  | .int _, x, y, cx, cy, _, h1, h2, he => by
    have h1 : _ = _ := h1
    have h2 : _ = _ := h2
    subst h1 h2
    have : x = y := eq_of_beq (α := Int) he
    rw [this]
  | .bool, x, y, cx, cy, _, h1, h2, he => by
    have h1 : _ = _ := h1
    have h2 : _ = _ := h2
    subst h1 h2
    have : x = y := eq_of_beq (α := Bool) he
    rw [this]
  | .str, x, y, cx, cy, _, h1, h2, he => by
    have h1 : _ = _ := h1
    have h2 : _ = _ := h2
    subst h1 h2
    have : x = y := bytes_of_beq he
    rw [this]
  | .unit, _, _, _, _, _, h1, h2, _ => by
    have h1 : _ = _ := h1
    have h2 : _ = _ := h2
    subst h1 h2
    rfl
  | .one a, x, y, cx, cy, h, h1, h2, he => keyed_same (k := a) h (show Rep w S a _ _ from h1) (show Rep w S' a _ _ from h2) he
  | .pair a b, x, y, cx, cy, h, h1, h2, he => by
    obtain ⟨c1, c2, rfl, p1, p2⟩ := h1
    obtain ⟨d1, d2, rfl, q1, q2⟩ := h2
    rw [keyEq_pair _ _ h, Bool.and_eq_true] at he
    simp only [Ty.keyed, Bool.and_eq_true] at h
    rw [keyed_same h.1 p1 q1 he.1, keyed_same h.2 p2 q2 he.2]
  | .f64, _, _, _, _, h, _, _, _ => by cases h
  | .sl _, _, _, _, _, h, _, _, _ => by cases h

def bare : Value → Prop
  | .int _ _ => True
  | .bool _ => True
  | .string _ => True
  | _ => False
theorem keyed_bare {S : Nat → Prop} : ∀ {k : Ty} {x : k.den} {cx : List Value}, k.keyed = true → Rep w S k x cx → ∀ c ∈ cx, bare c
  | .int _, _, _, _, h => by have h : _ = _ := h; subst h; simp [bare]
  | .bool, _, _, _, h => by have h : _ = _ := h; subst h; simp [bare]
  | .str, _, _, _, h => by have h : _ = _ := h; subst h; simp [bare]
  | .unit, _, _, _, h => by have h : _ = _ := h; subst h; simp
  | .one a, _, _, hk, h => keyed_bare (k := a) hk (show Rep w S a _ _ from h)
  | .pair a b, _, _, hk, h => by
    obtain ⟨c1, c2, rfl, h1, h2⟩ := h
    simp only [Ty.keyed, Bool.and_eq_true] at hk
    intro c hc
    rcases List.mem_append.1 hc with hc | hc
    · exact keyed_bare hk.1 h1 c hc
    · exact keyed_bare hk.2 h2 c hc
  | .f64, _, _, h, _ => by cases h
  | .sl _, _, _, h, _ => by cases h
theorem sameBits_bare {v : Value} (h : bare v) : ∀ n, Instr.sameBits n v v = true := by
  intro n
  cases v <;> first | exact h.elim | (cases n <;> simp [Instr.sameBits, bytes_beq])
theorem sameBits_zip : ∀ (l : List Value), (∀ c ∈ l, bare c) → ((l.zip l).all fun (x, y) => Instr.sameBits 9999 x y) = true
  | [], _ => rfl
  | c :: r, h => by
    simp only [List.zip_cons_cons, List.all_cons, Bool.and_eq_true]
    exact ⟨sameBits_bare (h c (by simp)) _, sameBits_zip r fun d hd => h d (by simp [hd])⟩
theorem keyed_bits {S : Nat → Prop} {k : Ty} {x : k.den} {cx : List Value} (hk : k.keyed = true) (h : Rep w S k x cx) : Instr.sameBits 10000 (mkVal k cx) (mkVal k cx) = true := by
  have hb := keyed_bare hk h
  have hl := h.length
  unfold mkVal
  split
  · simp only [Instr.sameBits, beq_self_eq_true, Bool.true_and]
    exact sameBits_zip cx hb
  · rename_i hna
    cases k <;> first | (exact absurd rfl hna) | skip
    all_goals first | cases hk | skip
    all_goals
      have h : _ = _ := h
      subst h
      exact sameBits_bare (by simp [bare]) _
theorem run_keyThatStays {S S' : Nat → Prop} {k : Ty} {x y : k.den} {cx cy : List Value} (hk : k.keyed = true) (hx : Rep w S k x cx) (hy : Rep w S' k y cy) (he : keyEq k x y = true) : (Instr.keyThatStays (mkVal k cy) (mkVal k cx)).run P w = .ok (mkVal k cx) w := by
  have := keyed_same hk hx hy he
  subst this
  simp [Instr.keyThatStays, keyed_bits hk hx]

/-! ### A key is looked for -/
theorem find_split {S : Nat → Prop} {k v : Ty} {tk : TypeId} (ok : KeyOk P k tk) {kx : k.den} {ck : List Value} (hk : Rep w S k kx ck) : ∀ {l : List (Nat × (Ty.pair k v).den)} {es : List MapEntry} (i : Nat), MapIn w S k v l es →
    ((∀ p ∈ l, keyEq k kx p.2.1 = false) ∧ (Instr.findAsking tk (mkVal k ck) es i).run P w = .ok none w ∧ ∀ d, P.underlying tk = some d → ∀ r, Instr.findNow d (mkVal k ck) es i = some r → r = none) ∨
    (∃ l1 p l2 e1 e e2, l = l1 ++ p :: l2 ∧ es = e1 ++ e :: e2 ∧ e1.length = l1.length ∧ (∀ q ∈ l1, keyEq k kx q.2.1 = false) ∧ keyEq k kx p.2.1 = true ∧ (Instr.findAsking tk (mkVal k ck) es i).run P w = .ok (some (i + e1.length, e.val)) w ∧
      ∀ d, P.underlying tk = some d → ∀ r, Instr.findNow d (mkVal k ck) es i = some r → r = some (i + e1.length, e.val))
  | [], [], i, _ => .inl ⟨fun _ h => (by cases h), rfl, fun d _ r h => (by simp only [Instr.findNow, Option.some.injEq] at h; exact h.symm)⟩
  | [], _ :: _, _, h => h.elim
  | _ :: _, [], _, h => h.elim
  | p :: l, e :: es, i, h => by
    obtain ⟨⟨h1, ⟨cy, hy, hey⟩, h3⟩, hr⟩ := h
    have heq := ok.eq w S _ _ _ _ hk hy
    rw [← hey] at heq
    obtain ⟨d0, hd0, hnow⟩ := ok.und
    have hn : ∀ d, P.underlying tk = some d → ∀ c, Instr.sameNow d (mkVal k ck) e.key = some c → c = keyEq k kx p.2.1 := fun d hd c hc => by
      rw [hd0] at hd
      injection hd with hd
      subst hd
      rw [hey] at hc
      exact hnow w S _ _ _ _ _ hk hy hc
    cases hc : keyEq k kx p.2.1 with
    | true =>
      rw [hc] at heq
      refine .inr ⟨[], p, l, [], e, es, rfl, rfl, rfl, fun _ h => (by cases h), hc, by simp [Instr.findAsking, heq], fun d hd r hr' => ?_⟩
      simp only [Instr.findNow] at hr'
      split at hr'
      · injection hr' with hr'
        exact hr'.symm
      · rename_i hs
        have := hn d hd _ hs
        rw [hc] at this
        cases this
      · cases hr'
    | false =>
      rw [hc] at heq
      have hnext : ∀ d, P.underlying tk = some d → ∀ r, Instr.findNow d (mkVal k ck) (e :: es) i = some r → Instr.findNow d (mkVal k ck) es (i + 1) = some r := fun d hd r hr' => by
        simp only [Instr.findNow] at hr'
        split at hr'
        · rename_i hs
          have := hn d hd _ hs
          rw [hc] at this
          cases this
        · exact hr'
        · cases hr'
      have hask : (Instr.findAsking tk (mkVal k ck) (e :: es) i).run P w = (Instr.findAsking tk (mkVal k ck) es (i + 1)).run P w := by simp [Instr.findAsking, heq]
      rcases find_split ok hk (i + 1) hr with ⟨g1, g2, g3⟩ | ⟨l1, q, l2, e1, f, e2, rfl, rfl, g3, g4, g5, g6, g7⟩
      · exact .inl ⟨fun q hq => (List.mem_cons.1 hq).elim (fun hq => hq ▸ hc) (g1 q), hask.trans g2, fun d hd r hr' => g3 d hd r (hnext d hd r hr')⟩
      · refine .inr ⟨p :: l1, q, l2, e :: e1, f, e2, rfl, rfl, by simp [g3], fun q hq => (List.mem_cons.1 hq).elim (fun hq => hq ▸ hc) (g4 q), g5, ?_, fun d hd r hr' => ?_⟩
        · rw [hask, g6, List.length_cons, show i + 1 + e1.length = i + (e1.length + 1) by omega]
        · rw [g7 d hd r (hnext d hd r hr'), List.length_cons, show i + 1 + e1.length = i + (e1.length + 1) by omega]

theorem run_find {tk : TypeId} {kv : Value} {es : List MapEntry} {q : Option (Nat × Value)} (hu : ∃ d, P.underlying tk = some d) (h1 : (Instr.findAsking tk kv es).run P w = .ok q w) (h2 : ∀ d, P.underlying tk = some d → ∀ r, Instr.findNow d kv es 0 = some r → r = q) :
    (Instr.findKey tk kv es).run P w = .ok q w := by
  obtain ⟨d, hd⟩ := hu
  simp only [Instr.findKey, Sem.run_bind, run_underlying hd, Result.andThen_ok]
  cases hf : Instr.findNow d kv es 0 with
  | some r => rw [h2 d hd r hf]; rfl
  | none => exact h1

/-- What plain data say of the same. -/
theorem mapGet_none {K V : Type} {eq : K → K → Bool} {k : K} : ∀ {l : List (Nat × (K × V))}, (∀ p ∈ l, eq k p.2.1 = false) → mapGet eq k l = none ∧ mapDel eq k l = l
  | [], _ => ⟨rfl, rfl⟩
  | p :: l, h => by
    obtain ⟨h1, h2⟩ := mapGet_none fun q hq => h q (List.mem_cons_of_mem _ hq)
    simp only [mapGet, mapDel, h p (by simp), cond_false, h1, h2, and_self]
theorem mapGet_split {K V : Type} {eq : K → K → Bool} {k : K} {p : Nat × (K × V)} {l2 : List (Nat × (K × V))} (hp : eq k p.2.1 = true) : ∀ {l1 : List (Nat × (K × V))}, (∀ q ∈ l1, eq k q.2.1 = false) →
    mapGet eq k (l1 ++ p :: l2) = some p.2.2 ∧ mapDel eq k (l1 ++ p :: l2) = l1 ++ l2 ∧ ∀ v, mapSet eq k v (l1 ++ p :: l2) = l1 ++ (p.1, (k, v)) :: l2
  | [], _ => by simp [mapGet, mapDel, mapSet, hp]
  | q :: l1, h => by
    obtain ⟨h1, h2, h3⟩ := mapGet_split (l2 := l2) hp fun r hr => h r (List.mem_cons_of_mem _ hr)
    simp only [List.cons_append, mapGet, mapDel, mapSet, h q (by simp), cond_false, h1, h2, h3, implies_true, and_self]

theorem run_getMap {b : Nat} {es : Array MapEntry} {c : Nat} (h : w.heap[b]? = some (.map es c)) : (getObj b).run P w = .ok (.map es c) w := by
  simp [getObj, Sem.run, h]
theorem map_get {st : Store} {k : Nat} {kt vt : Ty} {l : List (Nat × (Ty.pair kt vt).den)} {c : Nat} (h : st.map k kt vt = some (l, c)) : st.get k = some (.map kt vt l c) := by
  unfold Store.map at h
  split at h
  · rename_i k' v' l' c' hg
    split at h
    · rename_i he
      injection he with h1 h2
      subst h1 h2
      injection h with h
      injection h with h1 h2
      subst h1 h2
      exact hg
    · cases h
  · cases h
theorem isCell_map {b : Option Nat} : isCell (.map b) := trivial

/-- A map that a slot holds. -/
theorem own_map {st : Store} (h : StRel w S0 hv st) {k : Nat} {kt vt : Ty} {l : List (Nat × (Ty.pair kt vt).den)} {c : Nat} (hm : st.map k kt vt = some (l, c)) {v : Value} (hr : AVRep w (All S0 hv st) hv (.own k) v) :
    ∃ b es, v = .map (some b) ∧ w.heap[b]? = some (.map es c) ∧ MapIn w (All S0 hv st) kt vt l es.toList ∧ hv k = some (.map (some b)) := by
  obtain ⟨u, h1, b, es, rfl, h2, h3⟩ := h.objs _ _ (map_get hm)
  have : hv k = some v := hr.1
  rw [h1] at this
  injection this with this
  exact ⟨b, es, this.symm, h2, h3, h1⟩

theorem keyed_noSl : ∀ {k : Ty}, k.keyed = true → k.hasSl = false
  | .int _, _ => rfl
  | .bool, _ => rfl
  | .str, _ => rfl
  | .unit, _ => rfl
  | .one a, h => keyed_noSl (k := a) h
  | .pair a b, h => by
    simp only [Ty.keyed, Bool.and_eq_true] at h
    simp [Ty.hasSl, keyed_noSl h.1, keyed_noSl h.2]
  | .f64, h => by cases h
  | .sl _, h => by cases h

theorem key_rep {st : Store} (h : StRel w S0 hv st) {sl : Slot} {v : Value} (hr : SlotRep w (All S0 hv st) hv sl v) {k : Ty} (hk : k.keyed = true) {x : k.den} (hx : sl.as st k = some x) (S : Nat → Prop) : ∃ cs, Rep w S k x cs ∧ v = mkVal k cs := by
  obtain ⟨cs, h1, h2⟩ := slot_rep h hr hx (T := fun _ => False) (fun _ h => h.elim) (fun _ _ _ _ _ _ _ _ _ h => h)
  exact ⟨cs, h1.noSl (keyed_noSl hk), h2⟩

theorem op_makeMap (ok : EnvOk w0.tr P E) (h : Rel w0 S0 hv s a w) (hk : hv key = none) {T : TypeId} (ho : o.op = .makeMap T none) {kt vt : Ty} (hT : E.mapT T = some (kt, vt)) : Sound P w0 S0 hv s a w key o (.one (.own key)) (s.st.put key (.map kt vt [] 0)) := by
  have hnew : (w.alloc (.map #[] 0)).heap[w.heap.size]? = some (.map #[] 0) := heap_push _ _
  have he := erase_none (h.st.fresh hk)
  have := Post.lay (key := key) h h.gh h.st (fun _ h => h) hk key (.map (some w.heap.size)) (.map kt vt [] 0) rfl (w' := w.alloc (.map #[] 0)) (sl := .one (.own key)) (val := .map (some w.heap.size))
    (fun b e => .inl (by simp only [blk, Option.some.injEq] at e; omega)) (fun b hlt _ => heap_push_lt w _ hlt) (h.keep.alloc h.bn _)
  rw [he] at this
  refine ⟨_, _, _, .inl ?_, this (fun _ => ⟨w.heap.size, #[], rfl, hnew, trivial⟩) ⟨Hv.put_same, trivial⟩⟩
  simp [execOp, ho, Instr.makeMap]

theorem op_lookup (ok : EnvOk w0.tr P E) (h : Rel w0 S0 hv s a w) {T : TypeId} {x ix : Operand} {cok : Bool} (ho : o.op = .lookup T x ix cok) {av : AV} (hx : s.one x = some av) {sl : Slot} (hi : s.ev ix = some sl) {v : Slot} (he : lookupE E T av sl cok s.st = some v) : Sound P w0 S0 hv s a w key o v s.st := by
  have ra := one_rep h.tmps hx
  have ri := ev_rep h.tmps hi
  unfold lookupE at he
  split at he
  · rename_i k
    split at he
    · rename_i kt vt hT
      obtain ⟨tk, tv, z, hu, hko, hvo, hz, hzr⟩ := ok.mapT _ _ _ hT
      split at he
      · rename_i l c hm
        obtain ⟨b, es, hval, hheap, hin, _⟩ := own_map h.st hm ra
        split at he
        · rename_i kx hkx
          obtain ⟨ck, hck, hkval⟩ := key_rep h.st ri hko.keyed hkx (All S0 hv s.st)
          obtain ⟨cz, hcz, hzv⟩ := hzr w (All S0 hv s.st)
          have hund : ∃ d, P.underlying tk = some d := by obtain ⟨d, hd, _⟩ := hko.und; exact ⟨d, hd⟩
          have hchk := hko.chk es.isEmpty w _ _ _ hck
          -- what is found
          have key2 : ∃ (q : Option (Nat × Value)) (y : vt.den) (cy : List Value), (Instr.findKey tk (mkVal kt ck) es.toList).run P w = .ok q w ∧ q.isSome = (mapGet (keyEq kt) kx l).isSome ∧ y = (mapGet (keyEq kt) kx l).getD vt.dflt ∧ Rep w (All S0 hv s.st) vt y cy ∧
              (match q with | some (_, u) => u = mkVal vt cy | none => z = mkVal vt cy) := by
            rcases find_split hko hck 0 hin with ⟨g1, g2, g3⟩ | ⟨l1, p, l2, e1, e, e2, rfl, hes, g3, g4, g5, g6, g7⟩
            · obtain ⟨q1, _⟩ := mapGet_none (eq := keyEq kt) g1
              exact ⟨none, _, cz, run_find hund g2 g3, by rw [q1]; rfl, rfl, by rw [q1]; exact hcz, hzv⟩
            · obtain ⟨q1, _, _⟩ := mapGet_split (eq := keyEq kt) (l2 := l2) g5 g4
              rw [hes] at hin
              have hpe : ∃ cv, Rep w (All S0 hv s.st) vt p.2.2 cv ∧ e.val = mkVal vt cv := by
                obtain ⟨e', he', _, _, hv'⟩ := All2.get hin l1.length p (by simp)
                rw [← g3, List.getElem?_append_right (Nat.le_refl _), Nat.sub_self, List.getElem?_cons_zero] at he'
                injection he' with he'
                subst he'
                exact hv'
              obtain ⟨cv, hcv, hev⟩ := hpe
              refine ⟨_, _, cv, run_find hund g6 g7, by rw [q1]; rfl, rfl, by rw [q1]; exact hcv, hev⟩
          obtain ⟨q, y, cy, k1, k2, k3, k4, k5⟩ := key2
          have hrun : (Instr.lookup T (a.eval x) (a.eval ix) cok).run P w = .ok (if cok then .tuple #[mkVal vt cy, .bool (mapGet (keyEq kt) kx l).isSome] else mkVal vt cy) w := by
            rw [hval, hkval]
            cases q with
            | none =>
              have hzz : z = mkVal vt cy := k5
              simp only [Instr.lookup, Sem.run_bind, run_underlying hu, Result.andThen_ok, run_getMap hheap, Sem.run_pure, hchk, k1, run_zero hz, hzz]
              rw [← k2]
              rfl
            | some pq =>
              obtain ⟨j, u⟩ := pq
              have hzz : u = mkVal vt cy := k5
              simp only [Instr.lookup, Sem.run_bind, run_underlying hu, Result.andThen_ok, run_getMap hheap, Sem.run_pure, hchk, k1, hzz]
              rw [← k2]
              rfl
          cases cok with
          | true =>
            simp only [cond_true, Option.some.injEq] at he
            subst he
            refine Sound.quiet h (val := .tuple #[mkVal vt cy, .bool (mapGet (keyEq kt) kx l).isSome]) (by simp [execOp, ho, hrun]) ⟨[mkVal vt cy, .bool (mapGet (keyEq kt) kx l).isSome], rfl, ?_⟩
            exact ⟨⟨cy, by rw [← k3]; exact k4, rfl⟩, ⟨_, rfl, rfl⟩, trivial⟩
          | false =>
            simp only [cond_false, Option.some.injEq] at he
            subst he
            refine Sound.quiet h (val := mkVal vt cy) (by simp [execOp, ho, hrun]) ⟨cy, by rw [← k3]; exact k4, rfl⟩
        · cases he
      · cases he
    · cases he
  · cases he

theorem heap_set2 {w : World} {r : Nat} {o o' : Obj} (hb : w.heap[r]? = some o) : (w.heap.setIfInBounds r o')[r]? = some o' ∧ ∀ r', r' ≠ r → (w.heap.setIfInBounds r o')[r']? = w.heap[r']? := by
  have hlt : r < w.heap.size := (Array.getElem?_eq_some_iff.1 hb).1
  exact ⟨by simp [hlt], fun r' hne => by simp [Ne.symm hne]⟩
theorem run_setMap {b : Nat} {es : Array MapEntry} {c : Nat} (ob : Obj) (h : w.heap[b]? = some (.map es c)) : (setObj b ob).run P w = .ok () { w with heap := w.heap.setIfInBounds b ob } := by
  simp [setObj, Sem.run, h]
/-- A map is written. -/
theorem Post.map (h : Rel w0 S0 hv s a w) {st1 : Store} (hg : Gh w0 hv st1) (h1 : StRel w S0 hv st1) (hsub : ∀ b, Own hv st1 b → Own hv s.st b) {k b : Nat} {kt vt : Ty} {l l' : List (Nat × (Ty.pair kt vt).den)} {c c' : Nat} (hk : st1.get k = some (.map kt vt l c)) (hvk : hv k = some (.map (some b)))
    {es : Array MapEntry} (hb : w.heap[b]? = some (.map es c)) (es' : Array MapEntry) (hin : MapIn w (All S0 hv st1) kt vt l' es'.toList) {val : Value} (hval : val = .tuple #[]) :
    Post w0 S0 hv s.st w key (.tup []) (st1.put k (.map kt vt l' c')) hv val { w with heap := w.heap.setIfInBounds b (.map es' c') } := by
  have hset := heap_set2 (o' := .map es' c') hb
  have hown : Own hv s.st b := hsub b ⟨k, _, _, hk, hvk, rfl⟩
  have hle := h.base b hown
  obtain ⟨r1, r2, r3⟩ := h1.write (w' := { w with heap := w.heap.setIfInBounds b (.map es' c') }) (o' := .map kt vt l' c') hk hvk rfl rfl (fun j hj => hset.2 j hj) (fun hst => ⟨b, es', rfl, hset.1, hin.step hst⟩)
  refine ⟨r1, ((StepOk.refl _ _).sub fun b hb => hb.imp id (hsub b)).trans r2, Hv.le_refl _, fun _ _ => rfl, by rw [hval]; exact ⟨[], rfl, trivial⟩, fun c hc => h.base c (hsub c (r3 c hc)), ?_, hg.set rfl, fun b0 hb0 => hset.2 b0 fun e => ?_⟩
  · exact h.keep.trans ⟨rfl, rfl, rfl, by simp, fun j hj => hset.2 j (by omega), fun _ => Nat.le_refl _⟩
  · subst e
    exact h1.out b0 ⟨k, _, _, hk, hvk, rfl⟩ hb0

theorem modify_split {α : Type} (f : α → α) (e1 : List α) (e : α) (e2 : List α) (es : Array α) (h : es.toList = e1 ++ e :: e2) : (es.modify e1.length f).toList = e1 ++ f e :: e2 := by
  rw [Array.toList_modify, h]
  induction e1 generalizing es with
  | nil => rfl
  | cons x r ih =>
    simp only [List.cons_append, List.length_cons, List.modify_succ_cons]
    rw [ih ⟨r ++ e :: e2⟩ rfl]
theorem erase_split {α : Type} (e1 : List α) (e : α) (e2 : List α) (es : Array α) (h : es.toList = e1 ++ e :: e2) : (es.eraseIdxIfInBounds e1.length).toList = e1 ++ e2 := by
  have hl : e1.length < es.size := by rw [← Array.length_toList, h]; simp
  rw [Array.eraseIdxIfInBounds, dif_pos hl, Array.toList_eraseIdx, h, List.eraseIdx_append_of_length_le (Nat.le_refl _)]
  simp
theorem get_split {α : Type} (e1 : List α) (e : α) (e2 : List α) (es : Array α) (h : es.toList = e1 ++ e :: e2) : es[e1.length]? = some e := by
  rw [← Array.getElem?_toList, h, List.getElem?_append_right (Nat.le_refl _), Nat.sub_self]
  rfl
theorem MapIn.split {S : Nat → Prop} {kt vt : Ty} {l1 l2 : List (Nat × (Ty.pair kt vt).den)} {p : Nat × (Ty.pair kt vt).den} {e1 e2 : List MapEntry} {e : MapEntry} (hl : e1.length = l1.length) (h : MapIn w S kt vt (l1 ++ p :: l2) (e1 ++ e :: e2)) :
    MapIn w S kt vt l1 e1 ∧ MapIn w S kt vt [p] [e] ∧ MapIn w S kt vt l2 e2 := by
  induction l1 generalizing e1 with
  | nil =>
    cases e1 with
    | nil => exact ⟨trivial, ⟨h.1, trivial⟩, h.2⟩
    | cons _ _ => simp at hl
  | cons q l1 ih =>
    cases e1 with
    | nil => simp at hl
    | cons f e1 =>
      obtain ⟨g1, g2, g3⟩ := ih (by simpa using hl) h.2
      exact ⟨⟨h.1, g1⟩, g2, g3⟩

theorem op_mapUpdate (ok : EnvOk w0.tr P E) (h : Rel w0 S0 hv s a w) {T : TypeId} {x ix y : Operand} (ho : o.op = .mapUpdate T x ix y) {av : AV} (hx : s.one x = some av) {sl : Slot} (hi : s.ev ix = some sl) {vy : Slot} (hy : s.ev y = some vy) {st : Store} (he : mapUpdateE E T av sl vy s.st = some st) :
    Sound P w0 S0 hv s a w key o (.tup []) st := by
  have ra := one_rep h.tmps hx
  have ri := ev_rep h.tmps hi
  have ry := ev_rep h.tmps hy
  unfold mapUpdateE at he
  split at he
  · rename_i k
    split at he
    · rename_i kt vt hT
      obtain ⟨tk, tv, z, hu, hko, hvo, hz, hzr⟩ := ok.mapT _ _ _ hT
      split at he
      · rename_i l c hm
        obtain ⟨b, es, hval, hheap, hin, hvk⟩ := own_map h.st hm ra
        split at he
        · rename_i kx hkx
          split at he
          · rename_i vx hvx
            injection he with he
            subst he
            obtain ⟨f1, f2⟩ := fz_rel h.st vt.hasSl vy.rows
            obtain ⟨cv, hcv, hvval⟩ := slot_fz h.st ry hvx (fun _ h => h)
            have hgk : (fz s.st vt.hasSl vy.rows).get k = some (.map kt vt l c) := by
              unfold fz
              split
              · rcases get_freezes vy.rows s.st k with h' | ⟨_, _, h', _⟩
                · exact h'.trans (map_get hm)
                · rw [map_get hm] at h'
                  cases h'
              · exact map_get hm
            obtain ⟨v1, hv1, b1, es1, hq1, hq2, hin1⟩ := f1.objs _ _ hgk
            rw [hvk] at hv1
            injection hv1 with hv1
            subst hv1
            injection hq1 with hq1
            injection hq1 with hq1
            subst hq1
            rw [hheap] at hq2
            injection hq2 with hq2
            injection hq2 with hq2 _
            subst hq2
            obtain ⟨ck, hck, hkval⟩ := key_rep h.st ri hko.keyed hkx (All S0 hv (fz s.st vt.hasSl vy.rows))
            have hund : ∃ d, P.underlying tk = some d := by obtain ⟨d, hd, _⟩ := hko.und; exact ⟨d, hd⟩
            have hchk := hko.chk false w _ _ _ hck
            show Sound P w0 S0 hv s a w key o (.tup []) ((fz s.st vt.hasSl vy.rows).put k (.map kt vt (mapPut (keyEq kt) kx vx l c) (mapNext (keyEq kt) kx l c)))
            rcases find_split hko hck 0 hin1 with ⟨g1, g2, g3⟩ | ⟨l1, p, l2, e1, e, e2, rfl, hes, g3, g4, g5, g6, g7⟩
            · obtain ⟨q1, _⟩ := mapGet_none (eq := keyEq kt) g1
              have hp : mapPut (keyEq kt) kx vx l c = l ++ [(c, (kx, vx))] := by unfold mapPut; rw [q1]; rfl
              have hn : mapNext (keyEq kt) kx l c = c + 1 := by unfold mapNext; rw [q1]; rfl
              rw [hp, hn]
              refine ⟨hv, _, _, .inr ⟨?_, rfl⟩, Post.map h (fz_gh h.gh _ _) f1 f2 hgk hvk hheap (es.push { key := mkVal kt ck, val := mkVal vt cv, born := c }) ?_ rfl⟩
              · simp only [execOp, ho, hval, hkval, hvval, Instr.mapUpdate, Sem.run_bind, run_underlying hu, Result.andThen_ok, run_getMap hheap, hchk, run_find hund g2 g3, run_setMap _ hheap]
                rfl
              · rw [Array.toList_push]
                exact All2.append hin1 ⟨⟨rfl, ⟨ck, hck, rfl⟩, cv, hcv, rfl⟩, trivial⟩
            · obtain ⟨q1, _, q3⟩ := mapGet_split (eq := keyEq kt) (l2 := l2) g5 g4
              have hp : mapPut (keyEq kt) kx vx (l1 ++ p :: l2) c = l1 ++ (p.1, (kx, vx)) :: l2 := by unfold mapPut; rw [q1, q3]; rfl
              have hn : mapNext (keyEq kt) kx (l1 ++ p :: l2) c = c := by unfold mapNext; rw [q1]; rfl
              rw [hp, hn]
              rw [hes] at hin1
              obtain ⟨m1, ⟨m2, _⟩, m3⟩ := hin1.split g3
              obtain ⟨n1, ⟨cy, n2, n3⟩, n4⟩ := m2
              have hkeep := run_keyThatStays (P := P) hko.keyed hck n2 g5
              have hget := get_split e1 e e2 es hes
              rw [Nat.zero_add] at g6 g7
              refine ⟨hv, _, _, .inr ⟨?_, rfl⟩, Post.map h (fz_gh h.gh _ _) f1 f2 hgk hvk hheap (es.modify e1.length fun e => { e with key := mkVal kt ck, val := mkVal vt cv }) ?_ rfl⟩
              · simp only [execOp, ho, hval, hkval, hvval, Instr.mapUpdate, Sem.run_bind, run_underlying hu, Result.andThen_ok, run_getMap hheap, hchk, run_find hund g6 g7, hget, Option.map_some, Option.getD_some, n3, hkeep, run_setMap _ hheap]
                rfl
              · rw [modify_split _ _ _ _ _ hes]
                exact All2.append m1 ⟨⟨n1, ⟨ck, hck, rfl⟩, cv, hcv, rfl⟩, m3⟩
          · cases he
        · cases he
      · cases he
    · cases he
  · cases he

theorem op_mapLen (ok : EnvOk w0.tr P E) (h : Rel w0 S0 hv s a w) {c : Call} (ho : o.op = .call c) (hc : c.callee = .builtin .len) {x : Operand} (hx : c.args.toList = [x]) {T : TypeId} (hT : c.argTypes[0]? = some T) {kt vt : Ty} (hm : E.mapT T = some (kt, vt)) {k : Nat} (hav : s.one x = some (.own k))
    {l : List (Nat × (Ty.pair kt vt).den)} {n : Nat} (hl : s.st.map k kt vt = some (l, n)) : Sound P w0 S0 hv s a w key o (.one (.pure (.int .i64) ((l.length : Nat) : Int))) s.st := by
  obtain ⟨tk, tv, z, hu, hko, hvo, hz, hzr⟩ := ok.mapT _ _ _ hm
  obtain ⟨b, es, hval, hheap, hin, _⟩ := own_map h.st hl (one_rep h.tmps hav)
  have hargs : c.args = #[x] := by rw [← Array.toArray_toList (xs := c.args), hx]
  have hlen : es.size = l.length := by rw [hin.length, Array.length_toList]
  refine Sound.quiet h (val := .int .i64 (l.length : Nat)) ?_ (pure_int (hv := hv))
  simp [execOp, ho, resolve, hc, hargs, invoke, builtin, Builtin.len_, hT, run_underlying hu, hval, run_getMap hheap, goInt, hlen]

theorem op_delete (ok : EnvOk w0.tr P E) (h : Rel w0 S0 hv s a w) {c : Call} (ho : o.op = .call c) (hc : c.callee = .builtin .delete) {x y : Operand} (hx : c.args.toList = [x, y]) {T : TypeId} (hT : c.argTypes[0]? = some T) {kt vt : Ty} (hm : E.mapT T = some (kt, vt)) {k : Nat} (hav : s.one x = some (.own k))
    {l : List (Nat × (Ty.pair kt vt).den)} {n : Nat} (hl : s.st.map k kt vt = some (l, n)) {sl : Slot} (hy : s.ev y = some sl) {kx : kt.den} (hkx : sl.as s.st kt = some kx) : Sound P w0 S0 hv s a w key o (.tup []) (s.st.put k (.map kt vt (mapDel (keyEq kt) kx l) n)) := by
  obtain ⟨tk, tv, z, hu, hko, hvo, hz, hzr⟩ := ok.mapT _ _ _ hm
  obtain ⟨b, es, hval, hheap, hin, hvk⟩ := own_map h.st hl (one_rep h.tmps hav)
  have hargs : c.args = #[x, y] := by rw [← Array.toArray_toList (xs := c.args), hx]
  obtain ⟨ck, hck, hkval⟩ := key_rep h.st (ev_rep h.tmps hy) hko.keyed hkx (All S0 hv s.st)
  have hund : ∃ d, P.underlying tk = some d := by obtain ⟨d, hd, _⟩ := hko.und; exact ⟨d, hd⟩
  have hchk := hko.chk es.isEmpty w _ _ _ hck
  rcases find_split hko hck 0 hin with ⟨g1, g2, g3⟩ | ⟨l1, p, l2, e1, e, e2, rfl, hes, g3, g4, g5, g6, g7⟩
  · obtain ⟨_, q1⟩ := mapGet_none (eq := keyEq kt) g1
    rw [q1]
    refine ⟨hv, _, _, .inl ?_, Post.map h h.gh h.st (fun _ h => h) (map_get hl) hvk hheap es hin rfl⟩
    simp [execOp, ho, resolve, hc, hargs, invoke, builtin, Builtin.delete_, hT, run_underlying hu, hval, hkval, run_getMap hheap, hchk, run_find hund g2 g3, run_setMap _ hheap]
  · obtain ⟨_, q1, _⟩ := mapGet_split (eq := keyEq kt) (l2 := l2) g5 g4
    rw [q1]
    rw [hes] at hin
    obtain ⟨m1, _, m3⟩ := hin.split g3
    rw [Nat.zero_add] at g6 g7
    refine ⟨hv, _, _, .inl ?_, Post.map h h.gh h.st (fun _ h => h) (map_get hl) hvk hheap (es.eraseIdxIfInBounds e1.length) ?_ rfl⟩
    · simp [execOp, ho, resolve, hc, hargs, invoke, builtin, Builtin.delete_, hT, run_underlying hu, hval, hkval, run_getMap hheap, hchk, run_find hund g6 g7, run_setMap _ hheap]
    · rw [erase_split _ _ _ _ hes]
      exact All2.append m1 m3
end Go.Ev
