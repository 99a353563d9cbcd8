/- Walks of wire's U8, U16, Done, and of frame's marker and Join. -/
import Derived.Test.YtbjfkonkmgghfaaAWire
import Derived.Test.YtbjfkonkmgghfaaAMark
namespace Go.Proofs.Ytbjfkonkmgghfaa.Mine
open Go.RowKit Go.Proofs.YtbjfkonkmgghfaaW.PrintWords Go.Proofs.YtbjfkonkmgghfaaW.PrintLast Go.Proofs.YtbjfkonkmgghfaaW.PrintMore
set_option linter.unusedVariables false
set_option linter.unusedSimpArgs false

theorem newWriter_any (w0 w : World) (hB : Below w0.heap.size w0 w) : Calls Try.prog 16 #[] w fun e w' => ∃ g, e = .returned (.pointer (some ⟨g, 0, none⟩)) ∧ Wr w0 w' g [] ∧ Below w0.heap.size w0 w' := by
  have HB := Aside0.mk hB
  clear hB
  go_enter Try.func16, Try.ntmps16
  go_wp2
  go_ret
  exact ⟨_, rfl, ⟨_, by simpa using heap_alloc_new _ _, below_size HB.out, Kd.R_nil _ _ _ _ _⟩, below_alloc HB.out _⟩

set_option maxHeartbeats 800000 in
theorem u16_any (g : Nat) (n : Int) (h0 : 0 ≤ n) (h1 : n ≤ 4611686018427387904) (xs : List Int) (w0 w : World) (hB : Below w0.heap.size w0 w) (hw : Wr w0 w g xs) (hl : xs.length + 8 ≤ 140737488355328) :
    Calls Try.prog 19 #[.pointer (some ⟨g, 0, none⟩), .int .i64 n] w fun e w' => e = .returned (.tuple #[]) ∧ Wr w0 w' g (xs ++ bePart n 2 0) ∧ Below w0.heap.size w0 w' := by
  have HB := Aside0.mk hB
  have HW := Aside0.mk hw
  clear hB hw
  go_enter Try.func19, Try.ntmps19
  go_wp2_with (go_at_call 28; refine (put_any g n 2 (by omega) h0 xs w0 _ HB.out HW.out hl).mono ?_; rintro e w' ⟨rfl, hw1, hb1⟩; have HW1 := Aside0.mk hw1; have HB1 := Aside0.mk hb1; clear hw1 hb1)
  go_end0
  exact ⟨rfl, HW1.out, HB1.out⟩
set_option maxHeartbeats 800000 in
theorem u8_any (g : Nat) (n : Int) (h0 : 0 ≤ n) (h1 : n ≤ 4611686018427387904) (xs : List Int) (w0 w : World) (hB : Below w0.heap.size w0 w) (hw : Wr w0 w g xs) (hl : xs.length + 8 ≤ 140737488355328) :
    Calls Try.prog 20 #[.pointer (some ⟨g, 0, none⟩), .int .i64 n] w fun e w' => e = .returned (.tuple #[]) ∧ Wr w0 w' g (xs ++ bePart n 1 0) ∧ Below w0.heap.size w0 w' := by
  have HB := Aside0.mk hB
  have HW := Aside0.mk hw
  clear hB hw
  go_enter Try.func20, Try.ntmps20
  go_wp2_with (go_at_call 28; refine (put_any g n 1 (by omega) h0 xs w0 _ HB.out HW.out hl).mono ?_; rintro e w' ⟨rfl, hw1, hb1⟩; have HW1 := Aside0.mk hw1; have HB1 := Aside0.mk hb1; clear hw1 hb1)
  go_end0
  exact ⟨rfl, HW1.out, HB1.out⟩

/-- Clone of a row of one's own. -/
theorem clone_own (v : Value) (l0 : List Int) (b : Nat) (w : World) (hv : Kd.R (Kd.int .u8) 5 w b (fun _ => True) v l0) (hl : l0.length ≤ 140737488355328) :
    Calls Try.prog 26 #[v] w fun e w' => ∃ v0_ : Value, e = .returned v0_ ∧ Kd.R (Kd.int .u8) 5 w' w.heap.size (fun _ => True) v0_ l0 ∧ Below w.heap.size w w' := by
  obtain ⟨A, c, rfl, hlc, hc⟩ := Kd.R_reads hv
  cases A with
  | some ad =>
    exact clone_some ad c l0 w hc hl
  | none =>
    have h0 : l0 = [] := by
      rcases Nat.eq_zero_or_pos l0.length with h | h
      · exact List.eq_nil_of_length_eq_zero h
      · obtain ⟨ad, h', _⟩ := hc.2.2 h
        cases h'
    subst h0
    have hq := fun (w : World) (n c n' c' : Nat) => Lib.run_eql_slice_nil (P := Try.prog) w 23 5 none n c n' c' Try.underlying23
    go_enter Try.func26, Try.ntmps26
    go_wp2
    go_ret
    exact ⟨_, rfl, Kd.R_nil _ _ _ _ _, Below.refl _ _⟩
/-- Clone of a row that is read. -/
theorem clone_any (A : Option Addr) (n c : Nat) (l0 : List Int) (w : World) (hc : Kd.C (Kd.int .u8) w A n l0) (hl : n ≤ 140737488355328) :
    Calls Try.prog 26 #[.slice A n c] w fun e w' => ∃ v0_ : Value, e = .returned v0_ ∧ Kd.R (Kd.int .u8) 5 w' w.heap.size (fun _ => True) v0_ l0 ∧ Below w.heap.size w w' := by
  obtain rfl : l0.length = n := hc.1
  cases A with
  | some ad =>
    exact clone_some ad c l0 w hc hl
  | none =>
    have h0 : l0 = [] := by
      rcases Nat.eq_zero_or_pos l0.length with h | h
      · exact List.eq_nil_of_length_eq_zero h
      · obtain ⟨ad, h', _⟩ := hc.2.2 h
        cases h'
    subst h0
    have hq := fun (w : World) (n c n' c' : Nat) => Lib.run_eql_slice_nil (P := Try.prog) w 23 5 none n c n' c' Try.underlying23
    go_enter Try.func26, Try.ntmps26
    go_wp2
    go_ret
    exact ⟨_, rfl, Kd.R_nil _ _ _ _ _, Below.refl _ _⟩

theorem done_any (g : Nat) (xs : List Int) (w0 w : World) (hB : Below w0.heap.size w0 w) (hw : Wr w0 w g xs) (hl : xs.length ≤ 140737488355328) :
    Calls Try.prog 21 #[.pointer (some ⟨g, 0, none⟩)] w fun e w' => ∃ v0_ : Value, e = .returned v0_ ∧ Kd.R (Kd.int .u8) 5 w' w0.heap.size (fun _ => True) v0_ xs ∧ Below w0.heap.size w0 w' := by
  obtain ⟨v, hbk, hg, hv⟩ := hw
  have HB := Aside0.mk hB
  have HV := Aside0.mk hv
  have hcell := blk_cell hbk 0
  simp at hcell
  clear hB hv hbk
  go_enter Try.func21, Try.ntmps21
  go_wp2_with (go_at_call 26; refine (clone_own v xs _ _ HV.out hl).mono ?_; rintro e w' ⟨v0, rfl, hw1, hb1⟩; have HW1 := Aside0.mk hw1; have HB1 := Aside0.mk hb1; clear hw1 hb1)
  go_ret
  exact ⟨v0, rfl, Kd.R_lower HW1.out (below_size HB.out), below_step HB.out HB1.out⟩

theorem marker_any (w0 w : World) (hB : Below w0.heap.size w0 w) : Calls Try.prog 18 #[] w fun e w' => ∃ A c, e = .returned (.slice A 16 c) ∧ Kd.C (Kd.int .u8) w' A 16 ones16 ∧ Below w0.heap.size w0 w' ∧ Below w.heap.size w w' := by
  have HB := Aside0.mk hB
  clear hB
  go_enter Try.func18, Try.ntmps18
  go_wp2_with (go_at_call 27; refine (repeat_ff _ _ (by simp)).mono ?_; rintro e w' ⟨A, c, rfl, hw1, hb1⟩; have HW1 := Aside0.mk hw1; have HB1 := Aside0.mk hb1; clear hw1 hb1)
  go_ret
  exact ⟨A, c, rfl, HW1.out, below_step (below_alloc HB.out _) HB1.out, below_step (below_alloc (Below.refl _ _) _) HB1.out⟩
end Go.Proofs.Ytbjfkonkmgghfaa.Mine
