/- slices.insertionSortCmpFunc at ints, its closure having caught one variable: by reference. -/
import Derived.Test.YtdchhhedpipeiaaEvZZ
import Derived.Test.YtdchhhedpipeiaaEvIns
import Derived.Shelf.SlSortCmp.Insertion1
set_option linter.unusedVariables false
set_option linter.unusedSimpArgs false
namespace Go.Ev
open Go.RowKit Go.Shelf Go.Proofs

variable {P : Program} {ρ : Ren}

abbrev i64T : Ty := .int .i64
abbrev cmpKs (tc : Ty) : List AK := [.pure i64T, .pure i64T, .con tc]
abbrev insKs (g : FuncId) (tc : Ty) : List AK := [.row i64T, .pure i64T, .pure i64T, .fn g [tc]]
abbrev CmpF (tc : Ty) : Type := Int × Int × tc.den × Unit → Option ((Int × Unit) × (Int × Int × tc.den × Unit))
/-- What the closure says of two numbers. -/
noncomputable def cmpOf {tc : Ty} (F : CmpF tc) (l : tc.den) (x y : Int) : Int := match F (x, y, l, ()) with
  | some ((r, _), _) => r
  | none => 0
def insCond {tc : Ty} (F : CmpF tc) (xs : List Int) (a b : Int) (l : tc.den) : Prop :=
  xs ≠ [] ∧ a = 0 ∧ b = xs.length ∧ xs.length < 4611686018427387904 ∧ ∀ x ∈ xs, ∀ y ∈ xs, ∃ r, F (x, y, l, ()) = some ((r, ()), (x, y, l, ()))
noncomputable def insF {tc : Ty} (F : CmpF tc) : List Int × Int × Int × (tc.den × Unit) × Unit → Option (Unit × (List Int × Int × Int × (tc.den × Unit) × Unit)) :=
  open Classical in fun d => if insCond F d.1 d.2.1 d.2.2.1 d.2.2.2.1.1 then some ((), (insAll (fun x y => decide (cmpOf F d.2.2.2.1.1 x y < 0)) d.1, d.2.1, d.2.2.1, d.2.2.2.1, ())) else none

theorem StRel.later {w w' : World} {S0 : Nat → Prop} {hv : Hv} {st : Store} (h : StRel w S0 hv st) (hb : ∀ j, j < w.heap.size → w'.heap[j]? = w.heap[j]?) : StRel w' S0 hv st ∧ StepOk w (All S0 hv st) w' (All S0 hv st) := by
  have hs : StepOk w (All S0 hv st) w' (All S0 hv st) := fun b o v hn hc => ⟨hn, by rw [World.cell?_of_block (w := w) (hb b (cell_lt hc))]; exact hc⟩
  exact ⟨h.change hs (Hv.le_refl _) (fun k o hk => .inl ⟨hk, fun v b hv' hb' => hb b (h.blk_lt hk hv' hb')⟩) h.inj h.out, hs⟩

theorem heap_putRow {α : Type} [Inhabited α] {enc : α → Value} {w : World} {b off : Nat} {d : Array α} {vs : Array Value} {ty : TypeId} {fr : Nat × Nat} (h : w.heap[b]? = some (.cells vs ty fr)) :
    (Sort.putRow enc w b off d).heap[b]? = some (.cells (Sort.putCells enc off d vs) ty fr) := by
  show (w.heap.modify b (Sort.onCells _))[b]? = _
  rw [Array.getElem?_modify, if_pos rfl, h]
  rfl
theorem heap_putRow_ne {α : Type} [Inhabited α] {enc : α → Value} {w : World} {b off j : Nat} {d : Array α} (h : j ≠ b) : (Sort.putRow enc w b off d).heap[j]? = w.heap[j]? := by
  show (w.heap.modify b (Sort.onCells _))[j]? = _
  rw [Array.getElem?_modify, if_neg (Ne.symm h)]
theorem size_putRow' {α : Type} [Inhabited α] {enc : α → Value} {w : World} {b off : Nat} {d : Array α} : (Sort.putRow enc w b off d).heap.size = w.heap.size := by
  show (w.heap.modify b (Sort.onCells _)).size = _
  simp
theorem heap_grow_lt {w : World} {os : Array Obj} {j : Nat} (h : j < w.heap.size) : (Sort.grow w os).heap[j]? = w.heap[j]? := by
  show (w.heap ++ os)[j]? = _
  rw [Array.getElem?_append_left h]

theorem by_insSort {tr : Bool} (L : SlLaysF.n20 P ρ) {g : FuncId} (eg : Entered P g) {tc : Ty} {F : CmpF tc} (hC : By true P g ⟨cmpKs tc, [.pure i64T], F⟩) : By tr P (ρ.f 20) ⟨insKs g tc, [], insF F⟩ := by
  rintro ⟨xs, a, b, ⟨l, _⟩, _⟩ r x' hF w n S0 hv vals hn hS0 hst hsl hown
  have hF' : insF F (xs, a, b, (l, ()), ()) = some (r, x') := hF
  unfold insF at hF'
  split at hF'
  · rename_i hc
    injection hF' with hF'
    injection hF' with hr hx
    subst hx
    obtain ⟨hne, ha, hb, hlen, hcmp⟩ : xs ≠ [] ∧ a = 0 ∧ b = ((xs.length : Nat) : Int) ∧ xs.length < 4611686018427387904 ∧ ∀ x ∈ xs, ∀ y ∈ xs, ∃ r, F (x, y, l, ()) = some ((r, ()), (x, y, l, ())) := hc
    subst ha hb
    -- what is handed over
    obtain ⟨sto, hsto⟩ : ∃ s : Store, s = [(0, .row i64T xs), (1, .cells [.pure tc l])] := ⟨_, rfl⟩
    have hst : StRel w S0 hv sto := by rw [hsto]; exact hst
    have hown : ∀ b, Own hv sto b → n ≤ b := by rw [hsto]; exact hown
    have g0 : sto.get 0 = some (.row i64T xs) := by rw [hsto]; rfl
    have g1 : sto.get 1 = some (.cells [.pure tc l]) := by rw [hsto]; rfl
    match vals, hsl with
    | [v0, va, vb, vf], ⟨h0, hva, hvb, hvf, _⟩ =>
    have h0 : AVRep w (All S0 hv sto) hv (.own 0) v0 := by rw [hsto]; exact h0
    obtain ⟨ca, hca, rfl⟩ := hva
    obtain ⟨cb, hcb, rfl⟩ := hvb
    have hca : ca = [.int .i64 0] := hca
    have hcb : cb = [.int .i64 (xs.length : Int)] := hcb
    subst hca hcb
    obtain ⟨lf, hlf, rfl⟩ := hvf
    match lf, hlf with
    | [v1], ⟨hv1, _⟩ =>
    have hv1 : hv 1 = some v1 := hv1
    obtain ⟨u0, hu0, hob0⟩ := hst.objs 0 _ g0
    have e0 : v0 = u0 := Option.some.inj (h0.1.symm.trans hu0)
    subst e0
    obtain ⟨u1, hu1, bc, us, ty1, hp1, hheap1, hcell1⟩ := hst.objs 1 _ g1
    have e1 : v1 = u1 := Option.some.inj (hv1.symm.trans hu1)
    subst e1
    subst hp1
    rcases hob0 with ⟨A, _, h⟩ | ⟨bk, off, cap, vs, ty, rfl, hcap, hle, hheap, hroom, hin⟩
    · exact absurd h hne
    have hbb : bc ≠ bk := fun e => by
      have := hst.inj 0 _ _ 1 _ _ bk g0 hu0 (by simp [blk, hcap]) g1 hu1 (by simp [blk, e])
      cases this
    have hlt := heap_lt hheap
    -- the elements, as members
    haveI : Inhabited {x // x ∈ xs} := by
      cases xs with
      | nil => exact absurd rfl hne
      | cons x r => exact ⟨⟨x, List.mem_cons_self⟩⟩
    obtain ⟨d, hd⟩ : ∃ d : Array {x // x ∈ xs}, d = xs.attach.toArray := ⟨_, rfl⟩
    have hds : d.size = xs.length := by rw [hd]; simp
    have hdi : ∀ i, i < d.size → xs[i]? = some (d[i]!).1 := fun i hi => by
      have hi' : i < xs.length := by omega
      rw [getElem!_pos d i hi]
      subst hd
      simp [hi']
    have hH : Sort.Holds (fun x : {x // x ∈ xs} => Value.int .i64 x.1) w bk off d := fun j hj => by
      obtain ⟨es, hes, hcells⟩ := hin j _ (hdi j hj)
      have hes : es = [.int .i64 (d[j]!).1] := hes
      subst hes
      have := hcells 0 _ rfl
      have h1 : Ty.size (.int .i64) = 1 := rfl
      rw [h1, Nat.mul_one, Nat.add_zero] at this
      exact ⟨by rw [cell_of hheap]; exact this, by simp [World.frozen?, hheap]⟩
    have hent : ∀ args w, (callFunc g args).run P w = .ok (.enter g args) w := eg
    have hcr : ∀ x y : {x // x ∈ xs}, F (x.1, y.1, l, ()) = some ((cmpOf F l x.1 y.1, ()), (x.1, y.1, l, ())) := fun x y => by
      obtain ⟨r, hr⟩ := hcmp x.1 x.2 y.1 y.2
      unfold cmpOf
      rw [hr]
    have hlays : CmpLays1 P g #[.pointer (some ⟨bc, 0, none⟩)] (fun x : {x // x ∈ xs} => Value.int .i64 x.1) (fun x y => cmpOf F l x.1 y.1) bk off d.size w := by
      intro m os dk hs x y
      obtain ⟨W, hW⟩ : ∃ W, W = sortWorld (fun x : {x // x ∈ xs} => Value.int .i64 x.1) w bk off m dk os := ⟨_, rfl⟩
      rw [← hW]
      have hWlt : ∀ j, j < w.heap.size → j ≠ bk → W.heap[j]? = w.heap[j]? := fun j hj hjb => by
        rw [hW]
        unfold sortWorld
        rw [heap_grow_lt (by rw [size_putRow']; exact hj), heap_putRow_ne hjb]
        rfl
      have hWsz : w.heap.size ≤ W.heap.size := by
        rw [hW]
        unfold sortWorld
        show _ ≤ ((Sort.putRow _ (Sort.ahead w m) bk off dk).heap ++ os).size
        rw [Array.size_append, size_putRow']
        exact Nat.le_add_right _ _
      have hlt1 := heap_lt hheap1
      -- the variable is one that nobody writes
      have hS : ∀ b, (All S0 hv sto b ∧ b ≠ bc) → b < W.heap.size := fun b hb => by
        rcases hb.1 with hb | ⟨k, ob, u, q1, q2, q3⟩
        · exact Nat.lt_of_lt_of_le (hS0 b hb) hWsz
        · exact Nat.lt_of_lt_of_le (hst.blk_lt q1 q2 q3) hWsz
      have hstep : StepOk w (All S0 hv sto) W (fun b => All S0 hv sto b ∧ b ≠ bc) := fun b' o' v' hn' hc' => by
        refine ⟨fun hb => hn' hb.1, ?_⟩
        have hbk : b' ≠ bk := fun e => hn' (.inr ⟨0, _, _, g0, hu0, by simp [blk, hcap, e]⟩)
        rw [World.cell?_of_block (w := w) (hWlt b' (cell_lt hc') hbk)]
        exact hc'
      have hemp : ∀ b, ¬ Own (fun _ => none) ([] : Store) b := fun b ⟨k, ob, u, q1, _, _⟩ => by cases q1
      have hall : All (fun b => All S0 hv sto b ∧ b ≠ bc) (fun _ => none) ([] : Store) = fun b => All S0 hv sto b ∧ b ≠ bc := funext fun b => propext ⟨fun h => h.elim id fun h => absurd h (hemp b), .inl⟩
      have hcc : ∃ cv, us = #[cv] ∧ CRep w (All S0 hv sto) hv (.pure tc l) cv := by
        have hl1 := hcell1.length
        match hul : us.toList, hcell1 with
        | [cv], hc1 => exact ⟨cv, by rw [← Array.toArray_toList (xs := us), hul], hc1.1⟩
      obtain ⟨cv, hus, ⟨csl, hcsl, hcv⟩, hcvc⟩ := hcc
      have hcs1 : csl = [cv] := by
        rw [hcv]
        exact pure_cell hcsl (hcv ▸ hcvc)
      have hargs : All2 (SlotRep W (All (fun b => All S0 hv sto b ∧ b ≠ bc) (fun _ => none) (storeOf 0 (obsOf (cmpKs tc) (x.1, y.1, l, ())))) (fun _ => none)) (slotsOf 0 (cmpKs tc) (x.1, y.1, l, ())) [.int .i64 x.1, .int .i64 y.1, .pointer (some ⟨bc, 0, none⟩)] := by
        show All2 (SlotRep W (All (fun b => All S0 hv sto b ∧ b ≠ bc) (fun _ => none) ([] : Store)) (fun _ => none)) _ _
        rw [hall]
        refine ⟨⟨_, rfl, rfl⟩, ⟨_, rfl, rfl⟩, ⟨bc, 0, csl, hcsl.step hstep, fun j c hj => ⟨fun h => h.2 rfl, ?_⟩, rfl⟩, trivial⟩
        rw [hcs1] at hj
        have hj0 : j = 0 := by
          have := (List.getElem?_eq_some_iff.1 hj).1
          simp at this
          exact this
        subst hj0
        simp only [List.getElem?_cons_zero, Option.some.injEq] at hj
        subst hj
        have hWb : W.heap[bc]? = some (.cells us ty1 (0, 0)) := (hWlt bc hlt1 hbb).trans hheap1
        rw [cell_of hWb, hus]
        rfl
      have := hC (x.1, y.1, l, ()) (cmpOf F l x.1 y.1, ()) (x.1, y.1, l, ()) (hcr x y) W W.heap.size (fun b => All S0 hv sto b ∧ b ≠ bc) (fun _ => none) [.int .i64 x.1, .int .i64 y.1, .pointer (some ⟨bc, 0, none⟩)] (Nat.le_refl _) hS
        ⟨fun k o h => (by cases h), fun k o v k' o' v' b h => (by cases h), fun b hb => absurd hb (hemp b)⟩ hargs (fun b hb => absurd hb (hemp b))
      refine Calls.mono this ?_
      rintro e w' ⟨v, vs', hv', rfl, rfl, _, _, hres, _, hbel, _, _⟩
      match vs', hres with
      | [u], ⟨hu, _⟩ =>
      obtain ⟨cu, hcu, rfl⟩ := hu
      have hcu : cu = [.int .i64 (cmpOf F l x.1 y.1)] := hcu
      subst hcu
      refine ⟨rfl, w'.drawn - W.drawn, w'.heap.extract W.heap.size w'.heap.size, ?_⟩
      have hheapw : w'.heap = W.heap ++ w'.heap.extract W.heap.size w'.heap.size := by
        apply Array.ext_getElem?
        intro j
        by_cases hj : j < W.heap.size
        · rw [Array.getElem?_append_left hj]
          exact hbel.block j hj
        · rw [Array.getElem?_append_right (by omega), Array.getElem?_extract]
          by_cases hj2 : j < w'.heap.size
          · rw [if_pos (by omega)]
            congr 1
            omega
          · rw [if_neg (by omega), Array.getElem?_eq_none (by omega)]
      have hdr := hbel.drawn rfl
      have hos := hbel.os
      have htp := hbel.tape
      have hout := hbel.output
      obtain ⟨hp, tp, dr, osx, ou⟩ := w'
      simp only at hdr hos htp hout hheapw
      subst hos htp hout
      show World.mk hp W.tape dr W.os W.output = Sort.grow ⟨W.heap, W.tape, W.drawn + (dr - W.drawn), W.os, W.output⟩ _
      unfold Sort.grow
      simp only [World.mk.injEq, and_true, true_and]
      exact ⟨hheapw, by omega⟩
    -- the sort
    have hsort := Any.insertionSortCmpFunc_s L (fun x : {x // x ∈ xs} => Value.int .i64 x.1) (fun x y => cmpOf F l x.1 y.1) g #[.pointer (some ⟨bc, 0, none⟩)] bk off cap 0 d.size d d w w hent hlays ⟨fun x => rfl, hH, hlt⟩ rfl (SW.start hH) (Nat.zero_le _) (Nat.le_refl _) (by omega)
    rw [hds] at hsort
    refine Calls.mono (show Calls P (ρ.f 20) #[.slice (some ⟨bk, off, none⟩) xs.length cap, .int .i64 0, .int .i64 (xs.length : Int), .func (.func g) #[] #[.pointer (some ⟨bc, 0, none⟩)]] w _ from hsort) ?_
    rintro e w' ⟨rfl, m, os, rfl⟩
    have hlist := insertionSort_list (ltOf fun x y : {x // x ∈ xs} => cmpOf F l x.1 y.1) d
    rw [hds] at hlist
    obtain ⟨dd, hdd⟩ : ∃ dd, dd = Sort.insertionSort (ltOf fun x y : {x // x ∈ xs} => cmpOf F l x.1 y.1) d 0 xs.length := ⟨_, rfl⟩
    rw [← hdd] at hlist ⊢
    have hvals : dd.toList.map (·.1) = insAll (fun x y => decide (cmpOf F l x y < 0)) xs := by
      rw [hlist, insAll_map (fun x : {x // x ∈ xs} => x.1) (ltOf fun x y : {x // x ∈ xs} => cmpOf F l x.1 y.1) (fun x y => decide (cmpOf F l x y < 0)) (fun x y => rfl), hd]
      simp
    have hddl : dd.size = xs.length := by rw [← Array.length_toList, hlist, length_insAll, Array.length_toList, hds]
    have hys : (insAll (fun x y => decide (cmpOf F l x y < 0)) xs).length = xs.length := by rw [← hvals, List.length_map, Array.length_toList, hddl]
    obtain ⟨ys, hys0⟩ : ∃ ys, ys = insAll (fun x y => decide (cmpOf F l x y < 0)) xs := ⟨_, rfl⟩
    rw [← hys0] at hvals hys
    -- the row is written
    obtain ⟨w1, hw1⟩ : ∃ w1, w1 = Sort.putRow (fun x : {x // x ∈ xs} => Value.int .i64 x.1) (Sort.ahead w m) bk off dd := ⟨_, rfl⟩
    have hw1b : w1.heap[bk]? = some (.cells (Sort.putCells (fun x : {x // x ∈ xs} => Value.int .i64 x.1) off dd vs) ty (0, 0)) := by rw [hw1]; exact heap_putRow hheap
    have hw1n : ∀ j, j ≠ bk → w1.heap[j]? = w.heap[j]? := fun j hj => by rw [hw1, heap_putRow_ne hj]; rfl
    have hw1s : w1.heap.size = w.heap.size := by rw [hw1, size_putRow']; rfl
    have hgrow : ∀ j, j < w1.heap.size → (Sort.grow w1 os).heap[j]? = w1.heap[j]? := fun j hj => heap_grow_lt hj
    obtain ⟨r1, r2, r3⟩ := hst.write (w' := w1) (o' := .row i64T ys) g0 hu0 (b := bk) (by simp [blk, hcap]) (by simp [blk, hcap]) hw1n (fun hsp => by
      refine .inr ⟨bk, off, cap, _, ty, by rw [hys], hcap, by rw [hys]; exact hle, hw1b, by simpa [Sort.putCells] using hroom, fun i x hx => ⟨[.int .i64 x], rfl, fun j c hj => ?_⟩⟩
      have hj0 : j = 0 := by
        have := (List.getElem?_eq_some_iff.1 hj).1
        simp at this
        exact this
      subst hj0
      simp only [List.getElem?_cons_zero, Option.some.injEq] at hj
      subst hj
      have hi : i < dd.size := by
        have := (List.getElem?_eq_some_iff.1 hx).1
        omega
      have hsz : Ty.size i64T = 1 := rfl
      rw [hsz, Nat.mul_one, Nat.add_zero]
      have hin2 : off + i < vs.size := by
        rw [hsz] at hroom
        omega
      rw [← hvals, List.getElem?_map] at hx
      unfold Sort.putCells
      rw [Array.getElem?_mapIdx, Array.getElem?_eq_getElem hin2]
      simp only [Option.map_some]
      rw [if_pos ⟨by omega, by omega⟩, Nat.add_sub_cancel_left, getElem!_pos dd i hi]
      rw [Array.getElem?_toList, Array.getElem?_eq_getElem hi] at hx
      simp only [Option.map_some, Option.some.injEq] at hx
      rw [hx])
    obtain ⟨q1, q2⟩ := r1.later (w' := Sort.grow w1 os) hgrow
    have hput : sto.put 0 (.row i64T ys) = storeOf 0 (obsOf (insKs g tc) (ys, 0, ((xs.length : Nat) : Int), (l, ()), ())) := by rw [hsto]; rfl
    have hend : endStore ⟨insKs g tc, [], insF F⟩ r (ys, 0, ((xs.length : Nat) : Int), (l, ()), ()) = sto.put 0 (.row i64T ys) := hput.symm
    have hres : (insAll (fun x y => decide (cmpOf F l x y < 0)) xs, (0 : Int), ((xs.length : Nat) : Int), (l, ()), ()) = (ys, (0 : Int), ((xs.length : Nat) : Int), (l, ()), ()) := by rw [hys0]
    have hw2 : sortWorld (fun x : {x // x ∈ xs} => Value.int .i64 x.1) w bk off m dd os = Sort.grow w1 os := by rw [hw1]; rfl
    rw [hw2]
    have hS : All S0 hv (sto.put 0 (.row i64T ys)) = All S0 hv (endStore ⟨insKs g tc, [], insF F⟩ r (ys, 0, ((xs.length : Nat) : Int), (l, ()), ())) := by rw [hend]
    have hlow : ∀ j, j < n → (Sort.grow w1 os).heap[j]? = w.heap[j]? := fun j hj => by
      have hne : j ≠ bk := fun e => by
        have := hown bk ⟨0, _, _, g0, hu0, by simp [blk, hcap]⟩
        omega
      rw [hgrow j (by omega)]
      exact hw1n j hne
    have hbel : Below tr n w (Sort.grow w1 os) := ⟨by rw [hw1]; rfl, by rw [hw1]; rfl, by rw [hw1]; rfl, by
      show _ ≤ (w1.heap ++ os).size
      rw [Array.size_append, hw1s]
      exact Nat.le_add_right _ _, hlow, fun _ => by
      rw [hw1]
      show w.drawn ≤ w.drawn + m
      exact Nat.le_add_right _ _⟩
    refine ⟨.tuple #[], [], hv, rfl, rfl, fun _ _ => rfl, ?_⟩
    show StRel (Sort.grow w1 os) S0 hv (endStore ⟨insKs g tc, [], insF F⟩ r (insAll (fun x y => decide (cmpOf F l x y < 0)) xs, (0 : Int), ((xs.length : Nat) : Int), (l, ()), ())) ∧ All2 (AVRep (Sort.grow w1 os) (All S0 hv (endStore ⟨insKs g tc, [], insF F⟩ r (insAll (fun x y => decide (cmpOf F l x y < 0)) xs, (0 : Int), ((xs.length : Nat) : Int), (l, ()), ()))) hv) [] [] ∧
      (∀ b, Own hv (endStore ⟨insKs g tc, [], insF F⟩ r (insAll (fun x y => decide (cmpOf F l x y < 0)) xs, (0 : Int), ((xs.length : Nat) : Int), (l, ()), ())) b → n ≤ b) ∧ Below tr n w (Sort.grow w1 os) ∧
      StepOk w (All S0 hv (storeOf 0 (obsOf (insKs g tc) (xs, 0, ((xs.length : Nat) : Int), (l, ()), ())))) (Sort.grow w1 os) (All S0 hv (endStore ⟨insKs g tc, [], insF F⟩ r (insAll (fun x y => decide (cmpOf F l x y < 0)) xs, (0 : Int), ((xs.length : Nat) : Int), (l, ()), ()))) ∧ ∀ b, S0 b → (Sort.grow w1 os).heap[b]? = w.heap[b]?
    rw [hres, hend]
    refine ⟨q1, trivial, fun b hb => hown b (r3 b hb), hbel, ?_, fun b hb => ?_⟩
    · have : storeOf 0 (obsOf (insKs g tc) (xs, 0, ((xs.length : Nat) : Int), (l, ()), ())) = sto := by rw [hsto]; rfl
      rw [this]
      exact r2.trans q2
    · rw [hgrow b (by rw [hw1s]; exact hS0 b hb)]
      exact hw1n b fun e => hst.out bk ⟨0, _, _, g0, hu0, by simp [blk, hcap]⟩ (e ▸ hb)
  · cases hF'
end Go.Ev
