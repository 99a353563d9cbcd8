/- A walk of the law's known. -/
import Derived.Test.YtbjfkonkmgghfaaASplit
namespace Go.Proofs.Ytbjfkonkmgghfaa.Mine
open Go.RowKit Go.Proofs.YtbjfkonkmgghfaaW.PrintWords Go.Proofs.YtbjfkonkmgghfaaW.PrintLast Go.Proofs.YtbjfkonkmgghfaaW.PrintMore
set_option linter.unusedVariables false
set_option linter.unusedSimpArgs false

theorem joined4 : joined 4 [] = [255, 255, 255, 255, 255, 255, 255, 255, 255, 255, 255, 255, 255, 255, 255, 255, 0, 19, 4] := by decide
theorem joinedErr4 : joinedErr 4 [] = 0 := by decide
theorem splitF4 : splitF [255, 255, 255, 255, 255, 255, 255, 255, 255, 255, 255, 255, 255, 255, 255, 255, 0, 19, 4] = (4, [], 19, 0, 0, []) := by decide

set_option maxHeartbeats 4000000 in
theorem known_any (w : World) : Calls Try.prog 11 #[] w fun e w' => e = .returned (.bool true) ∧ Below w.heap.size w w' := by
  have hu := Try.underlying36
  go_enter Try.func11, Try.ntmps11
  go_wp2_with (first
    | (go_at_call 8; refine (join_any 4 none 0 [] w _ (Below.refl _ _) (Kd.C_nil _ _) (by simp)).mono ?_; rintro e w1 ⟨v1, rfl, hr1, hb1⟩; rw [joinedErr4]; rw [joined4] at hr1; obtain ⟨A1, c1, rfl, hl1, hc1⟩ := Kd.R_reads hr1; obtain ⟨p1, o1, rfl, hcell⟩ := intCells2 hc1 (by simp); have HC1 := Aside0.mk hc1; have HL1 := Aside0.mk hl1; have HCELL := Aside0.mk hcell; have HB1 := Aside0.mk hb1; clear hr1 hc1 hl1 hcell hb1)
    | (go_at_call 14; refine (split_any _ _ _ _ _ HC1.out HL1.out (by simp) (by simp)).mono ?_; rw [splitF4]; rintro e w2 ⟨v2, v5, rfl, hr2, hr5, hb2⟩; obtain ⟨A2, c2, rfl⟩ := Kd.R_slice hr2; obtain ⟨A5, c5, rfl⟩ := Kd.R_slice hr5; have HB2 := Aside0.mk (below_step HB1.out hb2); have hcb := fun j hj => pw_cell_below hb2 (HCELL.out j hj); have q15 := hcb 15 (by simp); have q17 := hcb 17 (by simp); have q18 := hcb 18 (by simp); have z15 := fun o => pw_cell_below (below_alloc (Below.refl _ _) o) q15; have z17 := fun o => pw_cell_below (below_alloc (Below.refl _ _) o) q17; have z18 := fun o => pw_cell_below (below_alloc (Below.refl _ _) o) q18; simp at z15 z17 z18; clear hr2 hr5 hb2 hcb q15 q17 q18))
  go_ret
  refine ⟨rfl, ?_⟩
  repeat (first | exact HB2.out | apply below_alloc | refine below_set ?_ (below_size HB2.out))
end Go.Proofs.Ytbjfkonkmgghfaa.Mine
