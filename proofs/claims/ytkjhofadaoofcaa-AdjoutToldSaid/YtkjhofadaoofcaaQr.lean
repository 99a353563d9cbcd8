/- Contracts and laws that the claim needs, packed from several texts. -/
import Derived.Shelf.SlSortCmp.NoneTotal
import Derived.Test.YtkjhofadaoofcaaQc
section
set_option linter.unusedVariables false
set_option linter.unusedSimpArgs false
namespace Go.Ev
open Go.RowKit Go.Shelf Go.Proofs
variable {P : Program} {ρ : Ren}
abbrev CmpT (e : Ty) : Type := Tup [e, e] → Option (OTup [.pure (.int .i64)])
noncomputable def cmpT {e : Ty} (F : CmpT e) (x y : e.den) : Int := match F (x, y, ()) with
  | some (r, _) => r
  | none => 0
noncomputable def ltT {e : Ty} (F : CmpT e) (x y : e.den) : Bool := decide (cmpT F x y < 0)
structure SortOk {e : Ty} (F : CmpT e) (xs : List e.den) : Prop where
  len : xs.length < 1000000000
  def_ : ∀ x ∈ xs, ∀ y ∈ xs, ∃ r, F (x, y, ()) = some (r, ())
  ord : OrdOn (ltT F) xs
theorem heap_putRow {α : Type} [Inhabited α] {enc : α → Value} {w : World} {b off : Nat} {d : Array α} {vs : Array Value} {ty : TypeId} {fr : Nat × Nat} (h : w.heap[b]? = some (.cells vs ty fr)) :
    (Sort.putRow enc w b off d).heap[b]? = some (.cells (Sort.putCells enc off d vs) ty fr) := by
  show (w.heap.modify b (Sort.onCells _))[b]? = _
  rw [Array.getElem?_modify, if_pos rfl, h]
  rfl
theorem heap_putRow_ne {α : Type} [Inhabited α] {enc : α → Value} {w : World} {b off j : Nat} {d : Array α} (h : j ≠ b) : (Sort.putRow enc w b off d).heap[j]? = w.heap[j]? := by
  show (w.heap.modify b (Sort.onCells _))[j]? = _
  rw [Array.getElem?_modify, if_neg (Ne.symm h)]
theorem size_putRow' {α : Type} [Inhabited α] {enc : α → Value} {w : World} {b off : Nat} {d : Array α} : (Sort.putRow enc w b off d).heap.size = w.heap.size := by
  show (w.heap.modify b (Sort.onCells _)).size = _
  simp
theorem heap_grow_lt {w : World} {os : Array Obj} {j : Nat} (h : j < w.heap.size) : (Sort.grow w os).heap[j]? = w.heap[j]? := by
  show (w.heap ++ os)[j]? = _
  rw [Array.getElem?_append_left h]
def cellsAt (vs : Array Value) (o k i : Nat) : List Value := (List.range k).map fun j => vs.getD (o + i * k + j) undef
theorem cellsAt_rep {w : World} {S : Nat → Prop} {e : Ty} {xs : List e.den} {vs : Array Value} {o i : Nat} {x : e.den} (h : RowIn w S e xs vs o) (hx : xs[i]? = some x) : Rep w S e x (cellsAt vs o e.size i) ∧ ∀ j, j < e.size → vs[o + i * e.size + j]? = some (vs.getD (o + i * e.size + j) undef) := by
  obtain ⟨es, hr, hc⟩ := h i x hx
  have hl := hr.length
  have hj : ∀ j, j < e.size → vs[o + i * e.size + j]? = some (es[j]?.getD undef) := fun j hj => by
    rw [hc j _ (List.getElem?_eq_getElem (by omega)), List.getElem?_eq_getElem (by omega)]
    rfl
  have he : cellsAt vs o e.size i = es := by
    apply List.ext_getElem?
    intro j
    unfold cellsAt
    rw [List.getElem?_map]
    by_cases hlt : j < e.size
    · rw [List.getElem?_range hlt, List.getElem?_eq_getElem (by omega)]
      simp only [Option.map_some, Option.some.injEq]
      rw [Array.getD_eq_getD_getElem?, hj j hlt, List.getElem?_eq_getElem (by omega)]
      rfl
    · rw [List.getElem?_eq_none (by simp; omega), List.getElem?_eq_none (by omega)]
      rfl
  refine ⟨he ▸ hr, fun j hlt => ?_⟩
  rw [Array.getD_eq_getD_getElem?, hj j hlt]
  rfl
theorem grown_of_below {w w' : World} (h : Below true w.heap.size w w') : ∃ q os, w' = Sort.grow (w.drewN q) os := by
  refine ⟨w'.drawn - w.drawn, w'.heap.extract w.heap.size w'.heap.size, ?_⟩
  have hheapw : w'.heap = w.heap ++ w'.heap.extract w.heap.size w'.heap.size := by
    apply Array.ext_getElem?
    intro j
    by_cases hj : j < w.heap.size
    · rw [Array.getElem?_append_left hj]
      exact h.block j hj
    · rw [Array.getElem?_append_right (by omega), Array.getElem?_extract]
      by_cases hj2 : j < w'.heap.size
      · rw [if_pos (by omega)]
        congr 1
        omega
      · rw [if_neg (by omega), Array.getElem?_eq_none (by omega)]
  have hdr := h.drawn rfl
  have hos := h.os
  have htp := h.tape
  have hout := h.output
  obtain ⟨hp, tp, dr, osx, ou⟩ := w'
  simp only at hdr hos htp hout hheapw
  subst hos htp hout
  show World.mk hp w.tape dr w.os w.output = Sort.grow ⟨w.heap, w.tape, w.drawn + (dr - w.drawn), w.os, w.output⟩ _
  unfold Sort.grow
  simp only [World.mk.injEq, and_true, true_and]
  exact ⟨hheapw, by omega⟩
theorem sort_raw (L : SlLaysF0.n6 P ρ) {e : Ty} (hag : e.isAgg = true) (k0 : 0 < e.size) (aE : ∀ w, (isAgg (ρ.t 24)).run P w = .ok true w) (zE : ∀ w, (Go.sizeOf (ρ.t 24)).run P w = .ok e.size w)
    {g : FuncId} (eg : Entered P g) {F : CmpT e} (hC : Pure true P g ⟨[e, e], [.pure (.int .i64)], F⟩) {w : World} {S : Nat → Prop} (hS : ∀ b, S b → b < w.heap.size)
    {bk off cap : Nat} {vs : Array Value} {ty : TypeId} {xs : List e.den} (hSb : S bk) (hheap : w.heap[bk]? = some (.cells vs ty (0, 0))) (hroom : off + cap * e.size ≤ vs.size) (hle : xs.length ≤ cap) (hin : RowIn w S e xs vs off) (hok : SortOk F xs) :
    Calls P (ρ.f 6) #[.slice (some ⟨bk, off, none⟩) xs.length cap, .func (.func g) #[] #[]] w fun e' w' => e' = .returned (.tuple #[]) ∧ ∃ vs' : Array Value, w'.heap[bk]? = some (.cells vs' ty (0, 0)) ∧ vs'.size = vs.size ∧ RowIn w S e (sortB (ltT F) xs) vs' off ∧
      (∀ j, j < w.heap.size → j ≠ bk → w'.heap[j]? = w.heap[j]?) ∧ w.heap.size ≤ w'.heap.size ∧ w'.os = w.os ∧ w'.tape = w.tape ∧ w'.output = w.output ∧ w.drawn ≤ w'.drawn := by
  rcases Nat.eq_zero_or_pos xs.length with h0 | hpos
  · have hx : xs = [] := List.eq_nil_of_length_eq_zero h0
    subst hx
    refine Calls.mono (AnyF.slices_SortFunc_none L (some ⟨bk, off, none⟩) cap _ w) ?_
    rintro e' w' ⟨rfl, rfl⟩
    exact ⟨rfl, vs, hheap, rfl, fun i x hx => by simp [sortB] at hx, fun j _ _ => rfl, Nat.le_refl _, rfl, rfl, rfl, Nat.le_refl _⟩
  obtain ⟨zs, hzs⟩ : ∃ zs : List (e.den × List Value), zs = (List.range xs.length).attach.map fun i => (xs[i.1]'(List.mem_range.1 i.2), cellsAt vs off e.size i.1) := ⟨_, rfl⟩
  have hzl : zs.length = xs.length := by rw [hzs]; simp
  have hzi : ∀ i (h : i < xs.length), zs[i]? = some (xs[i], cellsAt vs off e.size i) := fun i h => by
    rw [hzs]
    simp [h]
  have hzm : ∀ z ∈ zs, z.1 ∈ xs ∧ Rep w S e z.1 z.2 := fun z hz => by
    obtain ⟨i, hi, rfl⟩ := List.getElem_of_mem hz
    have := hzi i (by omega)
    rw [List.getElem?_eq_getElem hi] at this
    rw [Option.some.inj this]
    exact ⟨List.getElem_mem _, (cellsAt_rep hin (List.getElem?_eq_getElem (by omega))).1⟩
  have hz1 : zs.map (·.1) = xs := by
    apply List.ext_getElem?
    intro i
    rw [List.getElem?_map]
    by_cases hi : i < xs.length
    · rw [hzi i hi, List.getElem?_eq_getElem hi]
      rfl
    · rw [List.getElem?_eq_none (by omega), List.getElem?_eq_none (by omega)]
      rfl
  haveI : Inhabited {z // z ∈ zs} := by
    have hp : 0 < zs.length := by omega
    exact ⟨⟨zs[0], List.getElem_mem _⟩⟩
  obtain ⟨d, hd⟩ : ∃ d : Array {z // z ∈ zs}, d = zs.attach.toArray := ⟨_, rfl⟩
  have hds : d.size = xs.length := by rw [hd]; simp [hzl]
  have hdi : ∀ i, i < d.size → zs[i]? = some (d[i]!).1 := fun i hi => by
    have hi' : i < zs.length := by omega
    rw [getElem!_pos d i hi]
    subst hd
    simp [hi']
  obtain ⟨enc, henc⟩ : ∃ enc : {z // z ∈ zs} → List Value, enc = fun z => z.1.2 := ⟨_, rfl⟩
  have hk : ∀ z, (enc z).length = e.size := fun z => by rw [henc]; exact (hzm z.1 z.2).2.length
  have h1 : ∀ z, ∀ v ∈ enc z, v.oneCell' = true := fun z v hv => by rw [henc] at hv; exact ((hzm z.1 z.2).2.isCell v hv).one
  obtain ⟨cf, hcf⟩ : ∃ cf : {z // z ∈ zs} → {z // z ∈ zs} → Int, cf = fun x y => cmpT F x.1.1 y.1.1 := ⟨_, rfl⟩
  have hlt : ∀ x y, ltOf cf x y = ltT F x.1.1 y.1.1 := fun x y => by rw [hcf]; rfl
  have hO : Sort.SWO (ltOf cf) := ⟨fun x => by rw [hlt]; exact hok.ord.irr _ (hzm x.1 x.2).1, fun x y z h1 h2 => by rw [hlt] at *; exact hok.ord.tr _ (hzm x.1 x.2).1 _ (hzm y.1 y.2).1 _ (hzm z.1 z.2).1 h1 h2, fun x y z h1 h2 => by rw [hlt] at *; exact hok.ord.ntr (hzm x.1 x.2).1 (hzm y.1 y.2).1 (hzm z.1 z.2).1 h1 h2⟩
  have hent : ∀ args w, (callFunc g args).run P w = .ok (.enter g args) w := eg
  have hblk : bk < w.heap.size := heap_lt hheap
  have hH : Sort.HoldsK enc e.size w bk off d := fun j hj => by
    rw [Sort.size_flatK] at hj
    have hdj : j / e.size < d.size := by rw [Nat.div_lt_iff_lt_mul k0]; exact hj
    rw [Sort.get_flatK _ _ _ _ hj]
    have hm := Nat.mod_lt j k0
    have hz := hzi (j / e.size) (by omega)
    rw [hdi _ hdj] at hz
    have hz := Option.some.inj hz
    have he : (enc d[j / e.size]!)[j % e.size]! = vs.getD (off + j / e.size * e.size + j % e.size) undef := by
      rw [henc]
      show ((d[j / e.size]!).1.2)[j % e.size]! = _
      rw [hz]
      unfold cellsAt
      rw [getElem!_pos _ _ (by simp [hm])]
      simp
    have hc := (cellsAt_rep hin (List.getElem?_eq_getElem (show j / e.size < xs.length by omega))).2 (j % e.size) hm
    have hj2 : off + j / e.size * e.size + j % e.size = off + j := by rw [Nat.add_assoc, Nat.div_add_mod']
    rw [hj2] at hc he
    exact ⟨by rw [cell_of hheap, he]; exact hc, by simp [World.frozen?, hheap]⟩
  have hcr : ∀ x y : {z // z ∈ zs}, F (x.1.1, y.1.1, ()) = some (cf x y, ()) := fun x y => by
    obtain ⟨r, hr⟩ := hok.def_ _ (hzm x.1 x.2).1 _ (hzm y.1 y.2).1
    rw [hcf]
    show F (x.1.1, y.1.1, ()) = some ((match F (x.1.1, y.1.1, ()) with
      | some (r, _) => r
      | none => 0), ())
    rw [hr]
  have hlays : CmpLays P g #[] enc e.size cf bk off d.size w := by
    intro m os dk hs x y
    obtain ⟨W, hW⟩ : ∃ W, W = sortWorldK enc e.size w bk off m dk os := ⟨_, rfl⟩
    rw [← hW]
    have hWlt : ∀ j, j < w.heap.size → j ≠ bk → W.heap[j]? = w.heap[j]? := fun j hj hjb => by
      rw [hW]
      unfold sortWorldK Sort.putRowK
      rw [heap_grow_lt (by rw [size_putRow']; exact hj), heap_putRow_ne hjb]
      rfl
    have hWsz : w.heap.size ≤ W.heap.size := by
      rw [hW]
      unfold sortWorldK Sort.putRowK
      show _ ≤ ((Sort.putRow _ (Sort.ahead w m) bk off _).heap ++ os).size
      rw [Array.size_append, size_putRow']
      exact Nat.le_add_right _ _
    have hstep : StepOk w S W S := fun b' hn' hb' => ⟨hn', hWlt b' hb' (fun e => hn' (e ▸ hSb))⟩
    have hargs : ArgsRep W S [e, e] (x.1.1, y.1.1, ()) [mkVal e (enc x), mkVal e (enc y)] := ⟨⟨_, (by rw [henc]; exact ((hzm x.1 x.2).2).step hstep), rfl⟩, ⟨_, (by rw [henc]; exact ((hzm y.1 y.2).2).step hstep), rfl⟩, trivial⟩
    have hmk : ∀ l, mkVal e l = .agg l.toArray := fun l => by unfold mkVal; rw [if_pos hag]
    rw [hmk, hmk] at hargs
    refine Calls.mono (hC _ _ (hcr x y) W S _ (fun b hb => Nat.lt_of_lt_of_le (hS b hb) hWsz) hargs) ?_
    rintro e' w' ⟨v, rfl, ⟨hv, us, _, hus, rfl, _⟩, hbel⟩
    match us, hus with
    | [u], ⟨hu, _⟩ =>
    obtain ⟨cu, hcu, rfl⟩ := hu
    have hcu : cu = [.int .i64 (cf x y)] := hcu
    subst hcu
    exact ⟨rfl, grown_of_below hbel⟩
  have hsort := AnyQ.slices_SortFunc L e.size aE zE enc hk h1 cf hO g #[] bk off cap d w hent hlays hH hblk (by have := hok.len; omega)
  rw [hds] at hsort
  refine Calls.mono hsort ?_
  rintro e' w' ⟨rfl, d', n, os, hp, hs, rfl⟩
  obtain ⟨hp1, _, hp3⟩ := hp
  have hd1 : d'.size = xs.length := by omega
  have hex : ∀ a : Array {z // z ∈ zs}, a.size = xs.length → a.extract 0 xs.length = a := fun a ha => by rw [← ha]; exact Array.extract_size
  rw [hex d' hd1, hex d hds] at hp3
  have hdl : d.toList.map (·.1.1) = xs := by
    rw [hd]
    show (zs.attach.map fun z => z.1.1) = xs
    rw [show (zs.attach.map fun z => z.1.1) = (zs.attach.map (·.1)).map (·.1) by rw [List.map_map]; rfl, List.attach_map_subtype_val]
    exact hz1
  have hys : d'.toList.map (·.1.1) = sortB (ltT F) xs := by
    refine sortB_uniq hok.ord ?_ ?_
    · have := hp3.map (fun z : {z // z ∈ zs} => z.1.1)
      rwa [hdl] at this
    · rw [List.pairwise_map, List.pairwise_iff_getElem]
      intro i j hi hj hij
      have := hs i j (Nat.zero_le _) hij (by simpa [hd1] using hj)
      rw [hlt, getElem!_pos d' _ (by simpa using hj), getElem!_pos d' _ (by simpa using hi)] at this
      simpa using this
  have hb : (Sort.putRowK enc e.size (Sort.ahead w n) bk off d').heap[bk]? = some (.cells (Sort.putCells id off (Sort.flatK enc e.size d') vs) ty (0, 0)) := heap_putRow hheap
  refine ⟨rfl, Sort.putCells id off (Sort.flatK enc e.size d') vs, ?_, by simp [Sort.putCells], ?_, ?_, ?_, rfl, rfl, rfl, Nat.le_add_right _ _⟩
  · show (Sort.grow _ os).heap[bk]? = _
    rw [heap_grow_lt (by unfold Sort.putRowK; rw [size_putRow']; exact hblk)]
    exact hb
  · intro i x hx
    rw [← hys, List.getElem?_map] at hx
    have hi : i < d'.size := by
      rcases Nat.lt_or_ge i d'.size with h | h
      · exact h
      · rw [List.getElem?_eq_none (by simpa using h)] at hx
        cases hx
    rw [Array.getElem?_toList, Array.getElem?_eq_getElem hi] at hx
    simp only [Option.map_some, Option.some.injEq] at hx
    subst hx
    refine ⟨enc d'[i], by rw [henc]; exact (hzm _ d'[i].2).2, fun j c hj => ?_⟩
    have hjk : j < e.size := by
      have := (List.getElem?_eq_some_iff.1 hj).1
      rwa [hk] at this
    have hflat : i * e.size + j < d'.size * e.size := by
      have := Nat.mul_le_mul_right e.size (show i + 1 ≤ d'.size from hi)
      rw [Nat.add_mul, Nat.one_mul] at this
      omega
    have hcapk : xs.length * e.size ≤ cap * e.size := Nat.mul_le_mul_right _ hle
    have hin2 : off + i * e.size + j < vs.size := by rw [hd1] at hflat; omega
    unfold Sort.putCells
    rw [Array.getElem?_mapIdx, Array.getElem?_eq_getElem hin2]
    simp only [Option.map_some]
    rw [if_pos ⟨by omega, by rw [Sort.size_flatK]; omega⟩, show off + i * e.size + j - off = i * e.size + j by omega, Sort.get_flatK _ _ _ _ hflat]
    have e1 : (i * e.size + j) / e.size = i := (Sort.blk_iff e.size i _ k0).1 ⟨by omega, by omega⟩
    have e2 : (i * e.size + j) % e.size = j := by rw [Nat.mod_eq_sub_div_mul, e1]; omega
    rw [e1, e2, getElem!_pos d' i hi]
    obtain ⟨hlt', hc'⟩ := List.getElem?_eq_some_iff.1 hj
    rw [getElem!_pos (enc d'[i]) j hlt', hc']
    rfl
  · intro j hj hne
    show (Sort.grow _ os).heap[j]? = _
    rw [heap_grow_lt (by unfold Sort.putRowK; rw [size_putRow']; exact hj)]
    unfold Sort.putRowK
    rw [heap_putRow_ne hne]
    rfl
  · show _ ≤ ((Sort.putRowK enc e.size (Sort.ahead w n) bk off d').heap ++ os).size
    unfold Sort.putRowK
    rw [Array.size_append, size_putRow']
    exact Nat.le_add_right _ _
end Go.Ev
end
section
set_option linter.unusedVariables false
namespace Go.Ev
theorem FU_is : ∃ n : Nat, n = 18446744073709551616 := ⟨_, rfl⟩
noncomputable def FU : Nat := Classical.choose FU_is
theorem FU_eq : FU = 18446744073709551616 := Classical.choose_spec FU_is
variable {P : Program} {tr : Bool}
theorem Below.any {B : Nat} {w w' : World} (h : Below true B w w') : Below tr B w w' := ⟨h.os, h.tape, h.output, h.size, h.block, fun _ => h.drawn rfl⟩
end Go.Ev
end
section
set_option linter.unusedVariables false
set_option linter.unusedSimpArgs false
namespace Go.Ev
open Go.RowKit Go.Shelf Go.Proofs
variable {P : Program} {ρ : Ren}
theorem StRel.later {w w' : World} {S0 : Nat → Prop} {hv : Hv} {st : Store} (h : StRel w S0 hv st) (hb : ∀ j, j < w.heap.size → w'.heap[j]? = w.heap[j]?) : StRel w' S0 hv st ∧ StepOk w (All S0 hv st) w' (All S0 hv st) := by
  have hs : StepOk w (All S0 hv st) w' (All S0 hv st) := fun b hn hlt => ⟨hn, hb b hlt⟩
  exact ⟨h.change hs (Hv.le_refl _) (fun k o hk => .inl ⟨hk, rfl, fun v b hv' hb' => hb b (h.blk_lt hk hv' hb')⟩) h.inj h.out (fun k j i hk => by obtain ⟨_, _, _, _, _, _, _, _, _, _, _, _, _, _, _, hf⟩ := h.ali k j i hk; exact hf.elim), hs⟩
noncomputable def sortF {e : Ty} (F : CmpT e) : List e.den × Unit × Unit → Option (Unit × (List e.den × Unit × Unit)) :=
  open Classical in fun x => if SortOk F x.1 then some ((), (sortB (ltT F) x.1, (), ())) else none
theorem by_sort {tr : Bool} (L : SlLaysF0.n6 P ρ) {e : Ty} (hag : e.isAgg = true) (k0 : 0 < e.size) (aE : ∀ w, (isAgg (ρ.t 24)).run P w = .ok true w) (zE : ∀ w, (Go.sizeOf (ρ.t 24)).run P w = .ok e.size w)
    {g : FuncId} (eg : Entered P g) {F : CmpT e} (hC : Pure true P g ⟨[e, e], [.pure (.int .i64)], F⟩) : By tr P (ρ.f 6) ⟨[.row e, .fn g []], [], sortF F⟩ := by
  rintro ⟨xs, _, _⟩ r x' hF w n S0 hv vals hn hS0 hst hsl hown
  have hF' : sortF F (xs, (), ()) = some (r, x') := hF
  unfold sortF at hF'
  split at hF'
  · rename_i hok
    have hok : SortOk F xs := hok
    injection hF' with hF'
    injection hF' with hr hx
    subst hx
    obtain ⟨sto, hsto⟩ : ∃ s : Store, s = [(0, .row e xs)] := ⟨_, rfl⟩
    have hst2 : StRel w S0 hv sto := by rw [hsto]; exact hst
    have hown2 : ∀ b, Own hv sto b → n ≤ b := by rw [hsto]; exact hown
    have g0 : sto.get 0 = some (.row e xs) := by rw [hsto]; rfl
    match vals, hsl with
    | [v0, vf], ⟨h0, hvf, _⟩ =>
    have h0 : AVRep w (All S0 hv sto) hv (.own 0) v0 := by rw [hsto]; exact h0
    obtain ⟨lf, hlf, rfl⟩ := hvf
    match lf, hlf with
    | [], _ =>
    obtain ⟨u0, hu0, hob0⟩ := hst2.objs 0 _ g0
    have e0 : v0 = u0 := Option.some.inj (h0.1.symm.trans hu0)
    subst e0
    have hput : ∀ ys : List e.den, sto.put 0 (.row e ys) = storeOf 0 (obsOf [.row e, .fn g []] (ys, (), ())) := fun ys => by rw [hsto]; rfl
    have hend : ∀ ys : List e.den, endStore ⟨[.row e, .fn g []], [], sortF F⟩ r (ys, (), ()) = sto.put 0 (.row e ys) := fun ys => (hput ys).symm
    have hsto' : storeOf 0 (obsOf [.row e, .fn g []] (xs, (), ())) = sto := by rw [hsto]; rfl
    rcases hob0 with ⟨A, rfl, hnil⟩ | ⟨bk, off, cap, vs, ty, rfl, hcap, hle, hheap, hroom, hin⟩
    · subst hnil
      refine Calls.mono (AnyF.slices_SortFunc_none L A 0 _ w) ?_
      rintro e' w' ⟨rfl, rfl⟩
      refine ⟨.tuple #[], [], hv, rfl, rfl, fun _ _ => rfl, ?_⟩
      show StRel w' S0 hv (endStore ⟨[.row e, .fn g []], [], sortF F⟩ r ([], (), ())) ∧ All2 (AVRep w' (All S0 hv (endStore ⟨[.row e, .fn g []], [], sortF F⟩ r ([], (), ()))) hv) [] [] ∧
        (∀ b, Own hv (endStore ⟨[.row e, .fn g []], [], sortF F⟩ r ([], (), ())) b → n ≤ b) ∧ Below tr n w' w' ∧
        StepOk w' (All S0 hv (storeOf 0 (obsOf [.row e, .fn g []] (([] : List e.den), (), ())))) w' (All S0 hv (endStore ⟨[.row e, .fn g []], [], sortF F⟩ r ([], (), ()))) ∧ (∀ b, S0 b → w'.heap[b]? = w'.heap[b]?) ∧ _
      have h1 : sto.put 0 (.row e []) = sto := by rw [hsto]; rfl
      rw [hend, h1, hsto']
      exact ⟨hst2, trivial, hown2, Below.refl _ _ _, StepOk.refl _ _, fun _ _ => rfl, rfl⟩
    · have hbo : Own hv sto bk := ⟨0, _, _, g0, hu0, by simp [Bk, blk, hcap]⟩
      refine Calls.mono (sort_raw L hag k0 aE zE eg hC (S := All S0 hv sto) (fun b hb => ?_) (.inr hbo) hheap hroom hle hin hok) ?_
      · rcases hb with hb | ⟨k, ob, u, q1, q2, q3⟩
        · exact hS0 b hb
        · exact hst2.blk_lt q1 q2 q3
      rintro e' w' ⟨rfl, vs', p1, p2, p3, p4, p5, p6, p7, p8, p9⟩
      obtain ⟨w1, hw1⟩ : ∃ w1 : World, w1 = { w with heap := w.heap.setIfInBounds bk (.cells vs' ty (0, 0)) } := ⟨_, rfl⟩
      have hblk := heap_lt hheap
      have hw1b : w1.heap[bk]? = some (.cells vs' ty (0, 0)) := by rw [hw1]; show (w.heap.setIfInBounds _ _)[bk]? = _; rw [Array.getElem?_setIfInBounds, if_pos rfl, if_pos hblk]
      have hw1n : ∀ j, j ≠ bk → w1.heap[j]? = w.heap[j]? := fun j hj => by rw [hw1]; show (w.heap.setIfInBounds _ _)[j]? = _; rw [Array.getElem?_setIfInBounds, if_neg (Ne.symm hj)]
      have hw1s : w1.heap.size = w.heap.size := by rw [hw1]; show (w.heap.setIfInBounds _ _).size = _; simp
      have hlen := length_sortB (ltT F) xs
      obtain ⟨r1, r2, r3⟩ := hst2.write (w' := w1) (o' := .row e (sortB (ltT F) xs)) g0 rfl rfl hu0 (b := bk) (by simp [blk, hcap]) (by simp [blk, hcap]) hw1n (fun hsp => by
        refine .inr ⟨bk, off, cap, vs', ty, by rw [hlen], hcap, by rw [hlen]; exact hle, hw1b, by rw [p2]; exact hroom, fun i x hx => ?_⟩
        obtain ⟨es, q1, q2⟩ := p3 i x hx
        exact ⟨es, q1.step hsp, q2⟩)
      have hlater : ∀ j, j < w1.heap.size → w'.heap[j]? = w1.heap[j]? := fun j hj => by
        by_cases hjb : j = bk
        · rw [hjb, p1, hw1b]
        · rw [hw1n j hjb]
          exact p4 j (by omega) hjb
      obtain ⟨q1, q2⟩ := r1.later (w' := w') hlater
      have hlow : ∀ j, j < n → w'.heap[j]? = w.heap[j]? := fun j hj => p4 j (by omega) (fun e => by have := hown2 bk hbo; omega)
      refine ⟨.tuple #[], [], hv, rfl, rfl, fun _ _ => rfl, ?_⟩
      show StRel w' S0 hv (endStore ⟨[.row e, .fn g []], [], sortF F⟩ r (sortB (ltT F) xs, (), ())) ∧ All2 (AVRep w' (All S0 hv (endStore ⟨[.row e, .fn g []], [], sortF F⟩ r (sortB (ltT F) xs, (), ()))) hv) [] [] ∧
        (∀ b, Own hv (endStore ⟨[.row e, .fn g []], [], sortF F⟩ r (sortB (ltT F) xs, (), ())) b → n ≤ b) ∧ Below tr n w w' ∧
        StepOk w (All S0 hv (storeOf 0 (obsOf [.row e, .fn g []] (xs, (), ())))) w' (All S0 hv (endStore ⟨[.row e, .fn g []], [], sortF F⟩ r (sortB (ltT F) xs, (), ()))) ∧ (∀ b, S0 b → w'.heap[b]? = w.heap[b]?) ∧ _
      rw [hend, hsto']
      exact ⟨q1, trivial, fun b hb => hown2 b (r3 b hb), ⟨p6, p7, p8, p5, hlow, fun _ => p9⟩, r2.trans q2, fun b hb => p4 b (hS0 b hb) (fun e => hst2.out bk hbo (e ▸ hb)), rfl⟩
  · cases hF'
end Go.Ev
end
