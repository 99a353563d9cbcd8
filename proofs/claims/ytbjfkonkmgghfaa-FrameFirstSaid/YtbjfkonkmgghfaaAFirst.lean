/- The walk of the law FrameFirst. -/
import Derived.Test.YtbjfkonkmgghfaaAKnown
import Derived.Test.YtbjfkonkmgghfaaAWithin
import Derived.Test.YtbjfkonkmgghfaaANote
import Derived.Test.YtbjfkonkmgghfaaALib2
namespace Go.Proofs.Ytbjfkonkmgghfaa.Mine
open Go.RowKit Go.Proofs.YtbjfkonkmgghfaaW.PrintWords Go.Proofs.YtbjfkonkmgghfaaW.PrintLast Go.Proofs.YtbjfkonkmgghfaaW.PrintMore
set_option linter.unusedVariables false
set_option linter.unusedSimpArgs false

/-- The first sixteen bytes of sixty are written. -/
def filled (k : Nat) : List Int := List.replicate k 255 ++ List.replicate (60 - k) 0
theorem filled_len (k : Nat) (h : k ≤ 60) : (filled k).length = 60 := by simp [filled]; omega
theorem filled_step (k : Nat) (h : k < 60) : (filled k).set k 255 = filled (k + 1) := by
  unfold filled
  rw [List.set_append_right _ _ (by simp), List.length_replicate, Nat.sub_self, show 60 - k = (60 - (k + 1)) + 1 by omega, List.replicate_succ, List.set_cons_zero, List.replicate_succ', List.append_assoc]
  rfl

theorem andNot1 (t : Int) (h0 : 0 ≤ t) (h1 : t ≤ 255) : 0 ≤ Go.bits .andNot .u8 t 1 ∧ Go.bits .andNot .u8 t 1 ≤ 254 := by
  obtain ⟨n, rfl⟩ := Int.eq_ofNat_of_zero_le h0
  have : ∀ n : Fin 256, 0 ≤ Go.bits .andNot .u8 ((n.val : Nat) : Int) 1 ∧ Go.bits .andNot .u8 ((n.val : Nat) : Int) 1 ≤ 254 := by decide +kernel
  exact this ⟨n, by omega⟩
theorem newC (X : World) (g : Nat) (hg : X.heap.size = g) (xs : List Int) (n : Nat) (hn : xs.length = n) (hl : n ≤ 9223372036854775807) : Kd.C (Kd.int .u8) (X.alloc (.cells (nums .u8 xs).toArray 5)) (some ⟨g, 0, none⟩) n xs := by
  subst hg
  exact (RB.new X xs).C n hn hl

theorem first_bytes (j : Nat) (v : Int) (h0 : 0 ≤ v) (h1 : v ≤ 255) : ∀ x ∈ ((((((((filled 16).set 17 19).set 18 4).set 17 22).set 18 2).set 18 9).set 16 0).set 17 18).set j v, 0 ≤ x ∧ x ≤ 255 := by
  intro x hx
  rcases List.mem_or_eq_of_mem_set hx with h | rfl
  · have : ∀ x ∈ ((((((((filled 16).set 17 19).set 18 4).set 17 22).set 18 2).set 18 9).set 16 0).set 17 18), 0 ≤ x ∧ x ≤ 255 := by decide
    exact this x h
  · exact ⟨h0, h1⟩
theorem first_mark (j : Nat) (v : Int) (hj : j < 16) (h0 : 0 ≤ v) (h1 : v ≤ 254) : splitF (((((((((filled 16).set 17 19).set 18 4).set 17 22).set 18 2).set 18 9).set 16 0).set 17 18).set j v) = (0, [], 0, 1, 1, []) := by
  unfold splitF
  rw [if_neg (by rw [List.length_set]; decide), if_pos]
  intro h
  have h2 := congrArg (fun l => l.getD j 0) h
  simp only [List.getD, List.getElem?_take, if_pos hj] at h2
  rw [List.getElem?_set_self (by rw [show ((((((((filled 16).set 17 19).set 18 4).set 17 22).set 18 2).set 18 9).set 16 0).set 17 18).length = 60 by decide]; omega)] at h2
  have h3 : ones16[j]? = some 255 := by unfold ones16; rw [List.getElem?_replicate, if_pos hj]
  rw [h3] at h2
  simp at h2
  omega

set_option maxRecDepth 100000 in
set_option maxHeartbeats 3200000 in
theorem FrameFirst_walk (which pos tv : Int) (w0 : 0 ≤ tv) (w1' : tv ≤ 255) (w : World) : Calls Try.prog 6 #[.int .i64 which, .int .i64 pos, .int .u8 tv] w fun e w' => e = .returned (.bool true) ∧ Below w.heap.size w w' := by
  have hu := Try.underlying36
  have hmk : ∀ W : World, (Instr.makeSlice 23 (.int .i64 60) (.int .i64 60)).run Try.prog W = .ok (.slice (some ⟨W.heap.size, 0, none⟩) 60 60) (W.alloc (.cells (nums .u8 (filled 0)).toArray 5)) := fun _ => by kernel_rfl
  go_enter Try.func6, Try.ntmps6
  go_wp2
  clear hmk
  go_loopw [8] (fun v wr => ∃ k : Nat, k ≤ 16 ∧ v = .int .i64 k ∧ Aside0 (RB wr w.heap.size (filled k)) ∧ Aside0 (Below w.heap.size w wr)) (fun v _ => 16 - (intOf v).toNat)
  case atStart => exact ⟨0, by omega, rfl, ⟨RB.new w (filled 0)⟩, ⟨below_alloc (Below.refl _ _) _⟩⟩
  case round =>
    obtain ⟨k, hk, rfl, HR, HB⟩ := hrel
    by_cases hlt : k < 16
    · have hlt' : (k : Int) < 16 := by omega
      have q := HR.out.cell k (by rw [filled_len _ (by omega)]; omega)
      have qf := HR.out.frozen k
      go_wp2
      go_roundw
      case rel => exact ⟨k + 1, by omega, by go_num, ⟨by rw [← filled_step k (by omega)]; exact HR.out.set k 255⟩, ⟨below_set HB.out (Nat.le_refl _)⟩⟩
      case measure => simp [intOf]; omega
    · have hge : ¬ (k : Int) < 16 := by omega
      obtain rfl : k = 16 := by omega
      have q16 := HR.out.cell 16 (by decide)
      have q17 := HR.out.cell 17 (by decide)
      have q18 := HR.out.cell 18 (by decide)
      have qf := HR.out.frozen
      go_wp2_with fail
      refine (within_any which 0 3 (by omega) (by omega) (by omega) _).mono ?_
      rintro e w1 ⟨r, r0, r1, rfl, hw⟩
      have HR1 : Aside0 (RB w1 w.heap.size (((filled 16).set 17 19).set 18 4)) := ⟨hw ▸ (HR.out.set 17 19).set 18 4⟩
      have HB1 : Aside0 (Below w.heap.size w w1) := ⟨hw ▸ below_set (below_set HB.out (Nat.le_refl _)) (Nat.le_refl _)⟩
      clear hw q16 q17 q18 qf HR HB
      have q16 := HR1.out.cell 16 (by decide)
      have q17 := HR1.out.cell 17 (by decide)
      have q18 := HR1.out.cell 18 (by decide)
      have qf := HR1.out.frozen
      obtain rfl | rfl | rfl | rfl : r = 0 ∨ r = 1 ∨ r = 2 ∨ r = 3 := by omega
      · have hto := andNot1 tv w0 w1'
        go_wp2_with fail
        refine (within_any pos 0 15 (by omega) (by omega) (by omega) _).mono ?_
        rintro e w5 ⟨u, u0, u1, rfl, hw⟩
        have HR5 : Aside0 (RB w5 w.heap.size ((((((((filled 16).set 17 19).set 18 4).set 17 22).set 18 2).set 18 9).set 16 0).set 17 18)) := ⟨hw ▸ (((((HR1.out).set 17 22).set 18 2).set 18 9).set 16 0).set 17 18⟩
        have HB5 : Aside0 (Below w.heap.size w w5) := ⟨hw ▸ below_set (below_set (below_set (below_set (below_set (HB1.out) (Nat.le_refl _)) (Nat.le_refl _)) (Nat.le_refl _)) (Nat.le_refl _)) (Nat.le_refl _)⟩
        clear hw q16 q17 q18 qf HR1 HB1
        obtain ⟨j, rfl⟩ := Int.eq_ofNat_of_zero_le u0
        have qj := HR5.out.cell j (by rw [show ((((((((filled 16).set 17 19).set 18 4).set 17 22).set 18 2).set 18 9).set 16 0).set 17 18).length = 60 by decide]; omega)
        have qf := HR5.out.frozen
        obtain ⟨v, hv⟩ : ∃ v, Go.bits .andNot .u8 tv 1 = v := ⟨_, rfl⟩
        rw [hv] at hto
        obtain ⟨L, hL, hsp, hby⟩ : ∃ L, L = ((((((((filled 16).set 17 19).set 18 4).set 17 22).set 18 2).set 18 9).set 16 0).set 17 18).set j v ∧ splitF L = (0, [], 0, 1, 1, []) ∧ ∀ x ∈ L, 0 ≤ x ∧ x ≤ 255 := ⟨_, rfl, first_mark j v (by omega) hto.1 hto.2, first_bytes j v hto.1 (by omega)⟩
        have HL := Aside0.mk hL
        have hlen : L.length = 60 := by rw [hL, List.length_set]; decide
        clear hL
        go_wp2_with (first
          | (go_at_call 14; refine (split_any (some ⟨w.heap.size, 0, none⟩) 60 60 (L) _ (RB.C ((HL.out ▸ HR5.out.set j v : RB _ _ L)) 60 hlen (by omega)) (by omega) hby (by omega)).mono ?_; rw [hsp]; rintro e w2 ⟨v2, v5, rfl, hr2, hr5, hb2⟩; obtain ⟨A2, c2, rfl⟩ := Kd.R_slice hr2; obtain ⟨A5, c5, rfl, hl5, hc5⟩ := Kd.R_reads hr5; have HB2 := Aside0.mk (below_step (below_set HB5.out (Nat.le_refl _)) hb2); have HC5 := Aside0.mk hc5; clear hr2 hr5 hb2 hl5 hc5)
          | (go_at_call 15; refine (note_same 1 1 A5 _ 0 0 c5 _ [] _ (by repeat (first | exact HC5.out | apply Kd.C_alloc)) (Kd.C_nil _ _)).mono ?_; rintro e w3 ⟨rfl, hb3⟩; have HB3 := Aside0.mk (below_step (by repeat (first | exact HB2.out | apply below_alloc)) hb3); clear hb3)
          | (go_at_call 11; refine (known_any _).mono ?_; rintro e w4 ⟨rfl, hb4⟩; have HB4 := Aside0.mk (below_step HB3.out hb4); clear hb4))
        go_ret
        exact ⟨rfl, HB4.out⟩
      · have hsp : splitF ((((((((filled 16).set 17 19).set 18 4).set 17 22).set 18 2).set 18 9).set 16 0).set 17 18) = (0, [], 0, 1, 2, [0, 18]) := by decide
        go_wp2_with (first
          | (go_at_call 14; refine (split_any (some ⟨w.heap.size, 0, none⟩) 60 60 ((((((((filled 16).set 17 19).set 18 4).set 17 22).set 18 2).set 18 9).set 16 0).set 17 18) _ (RB.C ((((((HR1.out).set 17 22).set 18 2).set 18 9).set 16 0).set 17 18) 60 (by decide) (by omega)) (by omega) (by decide) (by omega)).mono ?_; rw [hsp]; rintro e w2 ⟨v2, v5, rfl, hr2, hr5, hb2⟩; obtain ⟨A2, c2, rfl⟩ := Kd.R_slice hr2; obtain ⟨A5, c5, rfl, hl5, hc5⟩ := Kd.R_reads hr5; have HB2 := Aside0.mk (below_step (below_set (below_set (below_set (below_set (below_set (HB1.out) (Nat.le_refl _)) (Nat.le_refl _)) (Nat.le_refl _)) (Nat.le_refl _)) (Nat.le_refl _)) hb2); have HC5 := Aside0.mk hc5; clear hr2 hr5 hb2 hl5 hc5)
          | (go_at_call 15; refine (note_same 1 2 A5 _ 2 2 c5 _ [0, 18] _ (by repeat (first | exact HC5.out | apply Kd.C_alloc)) (by refine Kd.C_alloc (Kd.C_alloc (Kd.C_alloc (Kd.C_alloc (?_) _) _) _) _; exact newC _ _ (by simp) [0, 18] 2 rfl (by omega))).mono ?_; rintro e w3 ⟨rfl, hb3⟩; have HB3 := Aside0.mk (below_step (by repeat (first | exact HB2.out | apply below_alloc)) hb3); clear hb3)
          | (go_at_call 11; refine (known_any _).mono ?_; rintro e w4 ⟨rfl, hb4⟩; have HB4 := Aside0.mk (below_step HB3.out hb4); clear hb4))
        go_ret
        exact ⟨rfl, HB4.out⟩
      · have hsp : splitF ((((((filled 16).set 17 19).set 18 4).set 17 22).set 18 2).set 18 9) = (0, [], 0, 1, 3, [9]) := by decide
        go_wp2_with (first
          | (go_at_call 14; refine (split_any (some ⟨w.heap.size, 0, none⟩) 60 60 ((((((filled 16).set 17 19).set 18 4).set 17 22).set 18 2).set 18 9) _ (RB.C ((((HR1.out).set 17 22).set 18 2).set 18 9) 60 (by decide) (by omega)) (by omega) (by decide) (by omega)).mono ?_; rw [hsp]; rintro e w2 ⟨v2, v5, rfl, hr2, hr5, hb2⟩; obtain ⟨A2, c2, rfl⟩ := Kd.R_slice hr2; obtain ⟨A5, c5, rfl, hl5, hc5⟩ := Kd.R_reads hr5; have HB2 := Aside0.mk (below_step (below_set (below_set (below_set (HB1.out) (Nat.le_refl _)) (Nat.le_refl _)) (Nat.le_refl _)) hb2); have HC5 := Aside0.mk hc5; clear hr2 hr5 hb2 hl5 hc5)
          | (go_at_call 15; refine (note_same 1 3 A5 _ 1 1 c5 _ [9] _ (by repeat (first | exact HC5.out | apply Kd.C_alloc)) (by refine Kd.C_alloc (Kd.C_alloc (Kd.C_alloc (?_) _) _) _; exact newC _ _ (by simp) [9] 1 rfl (by omega))).mono ?_; rintro e w3 ⟨rfl, hb3⟩; have HB3 := Aside0.mk (below_step (by repeat (first | exact HB2.out | apply below_alloc)) hb3); clear hb3)
          | (go_at_call 11; refine (known_any _).mono ?_; rintro e w4 ⟨rfl, hb4⟩; have HB4 := Aside0.mk (below_step HB3.out hb4); clear hb4))
        go_ret
        exact ⟨rfl, HB4.out⟩
      · have hsp : splitF (((((filled 16).set 17 19).set 18 4).set 17 22).set 18 2) = (0, [], 0, 1, 2, [0, 22]) := by decide
        go_wp2_with (first
          | (go_at_call 14; refine (split_any (some ⟨w.heap.size, 0, none⟩) 60 60 (((((filled 16).set 17 19).set 18 4).set 17 22).set 18 2) _ (RB.C (((HR1.out).set 17 22).set 18 2) 60 (by decide) (by omega)) (by omega) (by decide) (by omega)).mono ?_; rw [hsp]; rintro e w2 ⟨v2, v5, rfl, hr2, hr5, hb2⟩; obtain ⟨A2, c2, rfl⟩ := Kd.R_slice hr2; obtain ⟨A5, c5, rfl, hl5, hc5⟩ := Kd.R_reads hr5; have HB2 := Aside0.mk (below_step (below_set (below_set (HB1.out) (Nat.le_refl _)) (Nat.le_refl _)) hb2); have HC5 := Aside0.mk hc5; clear hr2 hr5 hb2 hl5 hc5)
          | (go_at_call 15; refine (note_same 1 2 A5 _ 2 2 c5 _ [0, 22] _ (by repeat (first | exact HC5.out | apply Kd.C_alloc)) (by refine Kd.C_alloc (Kd.C_alloc (?_) _) _; exact newC _ _ (by simp) [0, 22] 2 rfl (by omega))).mono ?_; rintro e w3 ⟨rfl, hb3⟩; have HB3 := Aside0.mk (below_step (by repeat (first | exact HB2.out | apply below_alloc)) hb3); clear hb3)
          | (go_at_call 11; refine (known_any _).mono ?_; rintro e w4 ⟨rfl, hb4⟩; have HB4 := Aside0.mk (below_step HB3.out hb4); clear hb4))
        go_ret
        exact ⟨rfl, HB4.out⟩

theorem FrameFirst_row (a0 a1 a2 : Int) (_ : (Lit.int .i64 a0).wf = true) (_ : (Lit.int .i64 a1).wf = true) (w2 : (Lit.int .u8 a2).wf = true) (w : World) : Calls Try.prog 6 #[.int .i64 a0, .int .i64 a1, .int .u8 a2] w fun e w' => e = .returned (.bool true) ∧ Below w.heap.size w w' := by
  obtain ⟨h0, h1⟩ := wf_u8 w2
  exact FrameFirst_walk a0 a1 a2 h0 h1 w
end Go.Proofs.Ytbjfkonkmgghfaa.Mine
