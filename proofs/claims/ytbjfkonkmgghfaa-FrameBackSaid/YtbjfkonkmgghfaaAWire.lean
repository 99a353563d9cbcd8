/- Walks of slices.Clone of bytes and of wire.Writer. -/
import Derived.Test.YtbjfkonkmgghfaaALib
namespace Go.Proofs.Ytbjfkonkmgghfaa.Mine
open Go.RowKit Go.Proofs.YtbjfkonkmgghfaaW.PrintWords Go.Proofs.YtbjfkonkmgghfaaW.PrintLast Go.Proofs.YtbjfkonkmgghfaaW.PrintMore
set_option linter.unusedVariables false
set_option linter.unusedSimpArgs false


set_option maxHeartbeats 800000 in
theorem clone_some (ad : Addr) (c0 : Nat) (l0 : List Int) (w : World) (hr0 : Kd.C (Kd.int .u8) w (some ad) l0.length l0) (hl : l0.length ≤ 140737488355328) :
    Calls Try.prog 26 #[.slice (some ad) l0.length c0] w fun e w' => ∃ v0_ : Value, e = .returned v0_ ∧ Kd.R (Kd.int .u8) 5 w' w.heap.size (fun _ => True) v0_ l0 ∧ Below w.heap.size w w' := by
  have HR := Aside0.mk hr0
  clear hr0
  have hq := fun (w : World) (n c n' c' : Nat) => Lib.run_eql_slice_nil (P := Try.prog) w 23 5 (some ad) n c n' c' Try.underlying23
  go_enter Try.func26, Try.ntmps26
  go_wp2_with (first | ((with_reducible refine gate_dst (N := 5) rfl ?_); refine Kd.R_lit (Kd.int .u8) w.heap.size 5 ?hg (N := 5) ?hd (w0 := w) (xs := ([] : List Int)) (inner := []) (ok := fun _ => True) (okp := fun _ => True) ?hr ?hp (fun _ hk => hk) trivial (Below.refl _ _) (Nat.le_refl _) (by simp) ?_; (case hd => rfl); (case hg => rfl); (case hr => first | (go_simp; done) | (go_simp; rfl)); (case hp => exact (Reps.none _ _)); intro v1 w1 ho hb hg_ hnew_; clear hg_ hnew_; have HO := Aside0.mk ho; have HB := Aside0.mk hb; clear ho hb) | ((with_reducible refine gate_builtin (b := .append) (xs := #[.tmp 5, .tmp 6]) rfl ?_); at_builtin; refine Kd.R_append_rows (Kd.int .u8) (w0 := w) w.heap.size rfl (.tmp 5) (.tmp 6) 23 5 (.int .u8 0) 1 rfl Try.underlying23 info5 rfl (by decide) (by omega) v1 [] l0 _ _ _ (fun _ => True) (fun _ => False) rfl rfl HO.out (Kd.C_below HR.out HB.out) (fun _ _ h => h) (fun _ h => h.elim) (fun _ _ => trivial) HB.out (below_size HB.out) (by simp; omega) ?_; intro v2 w2 ho hb hg_ hnew_; clear hg_ hnew_; have HO2 := Aside0.mk ho; have HB2 := Aside0.mk hb; clear ho hb))
  go_ret
  exact ⟨v2, rfl, HO2.out, HB2.out⟩


/-- A Writer at block g. -/
def Wr (w0 W : World) (g : Nat) (xs : List Int) : Prop := ∃ v, W.heap[g]? = some (.cells #[v] 54 (0, 0)) ∧ w0.heap.size ≤ g ∧ Kd.R (Kd.int .u8) 5 W w0.heap.size (fun _ => True) v xs

theorem wr_below {w0 W W1 : World} {g : Nat} {xs : List Int} (h : Wr w0 W g xs) (hb : Below W.heap.size W W1) : Wr w0 W1 g xs := by
  obtain ⟨v, hbk, hg, hv⟩ := h
  exact ⟨v, blk_below hbk hb, hg, Kd.R_below hv hb⟩
set_option maxHeartbeats 1600000 in
theorem raw_any (g : Nat) (A : Option Addr) (n c : Nat) (xs ys : List Int) (w0 w : World) (hB : Below w0.heap.size w0 w) (hw : Wr w0 w g xs) (hy : Kd.C (Kd.int .u8) w A n ys) (hl : xs.length + n ≤ 140737488355328) :
    Calls Try.prog 17 #[.pointer (some ⟨g, 0, none⟩), .slice A n c] w fun e w' => e = .returned (.tuple #[]) ∧ Wr w0 w' g (xs ++ ys) ∧ Below w0.heap.size w0 w' := by
  obtain ⟨v, hb, hg, hv⟩ := hw
  have HY := Aside0.mk hy
  have HV := Aside0.mk hv
  have HBK := Aside0.mk hb
  have HB := Aside0.mk hB
  have hcell := blk_cell hb 0
  simp at hcell
  have hfz := blk_frozen hb 0
  have hne := Kd.R_ne hv hb (by decide : (5:Nat) ≠ 54)
  have HNE := Aside0.mk hne
  clear hy hv hb hB hne
  go_enter Try.func17, Try.ntmps17
  go_wp2_with ((with_reducible refine gate_builtin (b := .append) (xs := #[.tmp 8, .tmp 9]) rfl ?_); at_builtin; refine Kd.R_append_rows (Kd.int .u8) (w0 := w0) w0.heap.size rfl (.tmp 8) (.tmp 9) 23 5 (.int .u8 0) 1 rfl Try.underlying23 info5 rfl (by decide) (by omega) v xs ys _ _ _ (fun _ => True) (fun _ => False) rfl rfl HV.out HY.out (fun _ _ h => h) (fun _ h => h.elim) (fun _ _ => trivial) HB.out (below_size HB.out) (by omega) ?_; intro v1 w1 ho hb hg hn; obtain ⟨A1, c1, rfl⟩ := Kd.R_slice ho; have HV1 := Aside0.mk ho; have HB1 := Aside0.mk hb; have HBK1 := Aside0.mk (blk_grown HBK.out hg HNE.out); have hcell1 := blk_cell HBK1.out 0; simp at hcell1; have hfz1 := blk_frozen HBK1.out 0; clear ho hb hg hn hcell hfz)

  go_end0
  exact ⟨rfl, ⟨_, by simpa using blk_set HBK1.out 0 _, by assumption, Kd.R_set HV1.out HBK1.out (by decide) 0 _⟩, below_set HB1.out (by assumption)⟩

def beByte (n : Int) (k : Nat) : Int := n / 2 ^ (8 * k) % 256
/-- The bytes of n that are written from place size - 1 down to place k. -/
def bePart (n : Int) (size k : Nat) : List Int := (List.range (size - k)).map fun j => beByte n (size - 1 - j)
theorem bePart_len (n : Int) (size k : Nat) : (bePart n size k).length = size - k := by simp [bePart]
theorem bePart_step (n : Int) (size k : Nat) (h : k < size) : bePart n size k = bePart n size (k + 1) ++ [beByte n k] := by
  unfold bePart
  rw [show size - k = (size - (k + 1)) + 1 by omega, List.range_succ, List.map_append]
  simp only [List.map_cons, List.map_nil]
  rw [show size - 1 - (size - (k + 1)) = k by omega]

set_option maxHeartbeats 1600000 in
theorem put_any (g : Nat) (n : Int) (size : Nat) (hs : size ≤ 8) (h0 : 0 ≤ n) (xs : List Int) (w0 w : World) (hB : Below w0.heap.size w0 w) (hw : Wr w0 w g xs) (hl : xs.length + 8 ≤ 140737488355328) :
    Calls Try.prog 28 #[.pointer (some ⟨g, 0, none⟩), .int .u64 n, .int .i64 size] w fun e w' => e = .returned (.tuple #[]) ∧ Wr w0 w' g (xs ++ bePart n size 0) ∧ Below w0.heap.size w0 w' := by
  have HW := Aside0.mk hw
  have HB := Aside0.mk hB
  clear hw hB
  go_enter Try.func28, Try.ntmps28
  go_wp2_with fail
  go_loopw [6] (fun v wr => ∃ (j : Int) (k : Nat), j + 1 = k ∧ k ≤ size ∧ v = .int .i64 j ∧ Wr w0 wr g (xs ++ bePart n size k) ∧ Below w0.heap.size w0 wr) (fun v _ => (intOf v + 1).toNat)
  case atStart => exact ⟨_, size, by omega, by omega, rfl, by simpa [bePart] using HW.out, HB.out⟩
  case round =>
    obtain ⟨j, k, hj, hk, rfl, hw, hb⟩ := hrel
    obtain ⟨v, hbk, hg, hv⟩ := hw
    have HG := Aside0.mk hg
    have HV := Aside0.mk hv
    have HBK := Aside0.mk hbk
    have HB1 := Aside0.mk hb
    have hcell := blk_cell hbk 0
    simp at hcell
    have hfz := blk_frozen hbk 0
    have HNE := Aside0.mk (Kd.R_ne hv hbk (by decide : (5:Nat) ≠ 54))
    clear hv hbk hb hg
    have hlen := bePart_len n size k
    by_cases hk0 : k = 0
    · have hj0 : j < 0 := by omega
      subst hk0
      have HE : j = -1 := by omega
      subst HE
      clear hj
      go_wp2
      go_end0
      exact ⟨rfl, ⟨v, HBK.out, HG.out, HV.out⟩, HB1.out⟩
    · obtain ⟨m, rfl⟩ : ∃ m : Nat, k = m + 1 := ⟨k - 1, by omega⟩
      have HE : j = m := by omega
      subst HE
      clear hj hk0
      go_wp2_with fail
      have hmul : IntKind.i64.wrap (8 * (m : Int)) = 8 * (m : Int) := IntWalk.i64_in _ (by omega)
      have hcA : ∀ o, (wr.alloc o).cell? ⟨g, 0, none⟩ = some v := fun o => by simpa using blk_cell (blk_alloc HBK.out o) 0
      have hm0 : 0 ≤ 8 * (m : Int) := by omega
      have hm1 : 8 * (m : Int) ≤ 64 := by omega
      go_region_law (refine Kd.R_append_step (Kd.int .u8) (w0 := w0) w0.heap.size rfl (.tmp 17) (.tmp 23) 23 5 (.int .u8 0) 1 rfl Try.underlying23 info5 rfl (by decide) (by omega) v (xs ++ bePart n size (m + 1)) (n / 2 ^ (8 * (m : Int)).toNat % 256) [.int .u8 (n / 2 ^ (8 * (m : Int)).toNat % 256)] (fun _ => True) (fun _ => False) rfl rfl rfl (fun _ h => h.elim) (fun _ _ => trivial) (Kd.R_drew HV.out) (below_drew HB1.out) (below_size (below_drew HB1.out)) (by rw [List.length_append, hlen]; omega) ?_; intro v1 w1 ho hb hg hn; obtain ⟨A1, n1, c1, rfl⟩ := R_form ho; have HV1 := Aside0.mk ho; have HB2 := Aside0.mk hb; have HBK1 := Aside0.mk (blk_grown (blk_drew HBK.out) hg HNE.out); have hcell1 := blk_cell HBK1.out 0; simp at hcell1; have hfz1 := blk_frozen HBK1.out 0; clear ho hb hg hn hcell hfz)
      all_goals clear hmul hcA
      all_goals go_wp2
      all_goals
        refine ⟨⟨(m : Int) - 1, m, by omega, by omega, rfl, ⟨_, by simpa using blk_set HBK1.out 0 _, HG.out, ?_⟩, below_set HB2.out HG.out⟩, by simp [intOf]⟩
        rw [bePart_step n size m hk, ← List.append_assoc, show beByte n m = n / 2 ^ (8 * (m : Int)).toNat % 256 from by unfold beByte; congr 3]
        exact Kd.R_set HV1.out HBK1.out (by decide) 0 _
end Go.Proofs.Ytbjfkonkmgghfaa.Mine
