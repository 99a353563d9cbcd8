/- Walks of the law's split and of signpostkeep.Cut. -/
import Derived.Test.YtbjfkonkmgghfaaARef
import Derived.Test.YtbjfkonkmgghfaaANote
namespace Go.Proofs.Ytbjfkonkmgghfaa.Mine
open Go.RowKit Go.Proofs.YtbjfkonkmgghfaaW.PrintWords Go.Proofs.YtbjfkonkmgghfaaW.PrintLast Go.Proofs.YtbjfkonkmgghfaaW.PrintMore
set_option linter.unusedVariables false
set_option linter.unusedSimpArgs false

theorem cut_any (A : Option Addr) (n c : Nat) (l : List Int) (m : Nat) (mi : Int) (hmi : mi = m) (hm : m ≤ 1000000) (w : World) (hc : Kd.C (Kd.int .u8) w A n l) (hnc : n ≤ c) :
    Calls Try.prog 12 #[.slice A n c, .int .i64 mi] w fun e w' => ∃ k, k ≤ c ∧ k ≤ m ∧ k ≤ n ∧ e = .returned (.slice A k c) ∧ Kd.C (Kd.int .u8) w A k (l.take m) ∧ w = w' := by
  subst hmi
  have hlen := hc.1
  have hmax := hc.2.1
  by_cases h : m < n
  · obtain ⟨hcut, hC⟩ := cutH (P := Try.prog) (d := Kd.int .u8) 23 5 Try.underlying23 sz5 A n c l m m rfl (by omega) hnc
    have HC := Aside0.mk (hC w hc)
    have h' : (m : Int) < n := by omega
    clear hC hc
    go_enter Try.func12, Try.ntmps12
    go_wp2
    go_ret
    exact ⟨m, by omega, by omega, by omega, rfl, HC.out, rfl⟩
  · have HC := Aside0.mk hc
    have h' : ¬ (m : Int) < n := by omega
    have h2 : ¬ m < n := h
    clear hc
    go_enter Try.func12, Try.ntmps12
    go_wp2
    go_ret
    exact ⟨n, hnc, by omega, by omega, rfl, by rw [List.take_of_length_le (by omega)]; exact HC.out, rfl⟩

set_option maxRecDepth 100000 in
set_option maxHeartbeats 3200000 in
theorem split_true (A : Option Addr) (n c : Nat) (l : List Int) (w : World) (hc : Kd.C (Kd.int .u8) w A n l) (hnc : n ≤ c) (hbyte : ∀ x ∈ l, 0 ≤ x ∧ x ≤ 255) (hl : n ≤ 140737488355327) :
    Calls Try.prog 10 #[.slice A n c] w fun e w' => e = .returned (.bool true) ∧ Below w.heap.size w w' := by
  obtain ⟨⟨r1, l2, r3, r4, r5, l6⟩, hR⟩ : ∃ R, splitF l = R := ⟨_, rfl⟩
  have HR := Aside0.mk hR
  have HC := Aside0.mk hc
  have HBY := Aside0.mk hbyte
  have hu := Try.underlying36
  clear hR hc hbyte
  go_enter Try.func10, Try.ntmps10
  go_wp2_with (first
    | (go_at_call 14; refine (split_any A n c l _ HC.out hnc HBY.out (by omega)).mono ?_; rw [HR.out]; rintro e w2 ⟨v2, v5, rfl, hr2, hr5, hb2⟩; dsimp only at hr2 hr5 ⊢; obtain ⟨A2, c2, rfl, _, hc2⟩ := Kd.R_reads hr2; obtain ⟨A5, c5, rfl, _, hc5⟩ := Kd.R_reads hr5; have HB2 := Aside0.mk hb2; have HC2 := Aside0.mk hc2; have HC5 := Aside0.mk hc5; clear hr2 hr5 hb2 hc2 hc5)
    | (go_at_call 22; refine (refSplit_any A n c l _ (Kd.C_alloc (Kd.C_below HC.out HB2.out) _) hnc HBY.out hl).mono ?_; rw [HR.out]; rintro e w4 ⟨v3, v7, rfl, hr3, hr7, hb4⟩; dsimp only at hr3 hr7 ⊢; obtain ⟨A3, c3, rfl, _, hc3⟩ := Kd.R_reads hr3; obtain ⟨A7, c7, rfl, _, hc7⟩ := Kd.R_reads hr7; have HK6 := Aside0.mk (blk_below (blk_new _ _) hb4); have k0 := fun o => blk_cell (blk_alloc HK6.out o) 0; have k1 := fun o => blk_cell (blk_alloc HK6.out o) 1; have k2 := fun o => blk_cell (blk_alloc HK6.out o) 2; simp at k0 k1 k2; have HC2' := Aside0.mk (Kd.C_below (Kd.C_alloc HC2.out _) hb4); have HC5' := Aside0.mk (Kd.C_below (Kd.C_alloc HC5.out _) hb4); have HC3 := Aside0.mk hc3; have HC7 := Aside0.mk hc7; have s1 := fun (o : Obj) => Kd.C_string (P := Try.prog) (A := A2) (c := c2) Try.underlying23 Try.underlying5 Try.underlying9 (Kd.C_alloc HC2'.out o); have s2 := fun (o : Obj) => Kd.C_string (P := Try.prog) (A := A3) (c := c3) Try.underlying23 Try.underlying5 Try.underlying9 (Kd.C_alloc hc3 o); have HB4 := Aside0.mk (below_step (below_alloc HB2.out _) hb4); clear hr3 hr7 hb4 hc3 hc7)
    | (go_at_call 15; refine (note_same r4 r5 A5 A7 _ _ c5 c7 l6 _ (Kd.C_alloc HC5'.out _) (Kd.C_alloc HC7.out _)).mono ?_; rintro e w6 ⟨rfl, hb6⟩; have HB6 := Aside0.mk (below_step (below_alloc HB4.out _) hb6); clear hb6))
  go_ret
  exact ⟨rfl, HB6.out⟩
end Go.Proofs.Ytbjfkonkmgghfaa.Mine
