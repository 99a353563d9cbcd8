/- Contracts and laws that the claim needs, packed from several texts. -/
import Derived.Test.YtokfgajfkopelaaDoorQAddrRules0
namespace Go.Proofs.YtokfgajfkopelaaDoor.BP
open Go.Proofs.YtokfgajfkopelaaDoor.Mine
open Go.RowKit Go.Proofs.YtokfgajfkopelaaDoorW.PrintWords Go.Proofs.YtokfgajfkopelaaDoorW.PrintLast Go.Proofs.YtokfgajfkopelaaDoorW.PrintMore
attribute [local go_sem] max2_int min2_int max_two min_two max_three min_three max_four min_four
set_option linter.unusedVariables false
set_option linter.unusedSimpArgs false
attribute [local go_sem high] eqA24
set_option maxHeartbeats 8000000 in
set_option maxRecDepth 100000 in
theorem signpostlaw1_AddrRules.calls (k : Nat) (a0 : Int) (a1 : Int) (a2 : Int) (a3 : Int) (r : Bool) (hr : r = true) (w : World) (henv : Env w) (h : signpostlaw1_AddrRules.f k a0 a1 a2 a3 = some r) :
 Calls Tryd.prog 10 #[.int .u32 a0, .int .u32 a1, .int .i64 a2, .int .i64 a3] w fun e w' => e = .returned (.bool r) ∧ Below w.heap.size w w' := by
 have hu24 := Tryd.underlying24
 have HB := Aside0.mk (Below.refl w.heap.size w)
 have HENV := Aside0.mk henv
 clear henv
 have H : ((signpostkeep_Any.f k a0 a2).bind fun bt169 => ((signpostkeep_Any.f k a1 a3).bind fun bt171 => ((addr_Half.f k bt169.1 bt169.2 false).bind fun bt175 => ((addr_Half.f k bt169.1 bt169.2 true).bind fun bt179 => (if (bt175.2.2 != (decide (bt169.2 < 32))) = true then (signpostlaw1_AddrRules.j0 k a1 bt175.2.2 true bt169.1 bt169.2 bt171.1 bt171.2 bt175.1 bt175.2.1 bt179.1 bt179.2.1) else (signpostlaw1_AddrRules.j0 k a1 bt175.2.2 (bt179.2.2 != bt175.2.2) bt169.1 bt169.2 bt171.1 bt171.2 bt175.1 bt175.2.1 bt179.1 bt179.2.1)))))) = some r := h
 clear h
 replace H := Option.bind_eq_some_iff.mp H
 obtain ⟨⟨t169, t170⟩, A50, H⟩ := H
 replace H : ((signpostkeep_Any.f k a1 a3).bind fun bt171 => ((addr_Half.f k t169 t170 false).bind fun bt175 => ((addr_Half.f k t169 t170 true).bind fun bt179 => (if (bt175.2.2 != (decide (t170 < 32))) = true then (signpostlaw1_AddrRules.j0 k a1 bt175.2.2 true t169 t170 bt171.1 bt171.2 bt175.1 bt175.2.1 bt179.1 bt179.2.1) else (signpostlaw1_AddrRules.j0 k a1 bt175.2.2 (bt179.2.2 != bt175.2.2) t169 t170 bt171.1 bt171.2 bt175.1 bt175.2.1 bt179.1 bt179.2.1))))) = some r := H
 have A5 := Aside0.mk A50
 clear A50
 replace H := Option.bind_eq_some_iff.mp H
 obtain ⟨⟨t171, t172⟩, A60, H⟩ := H
 replace H : ((addr_Half.f k t169 t170 false).bind fun bt175 => ((addr_Half.f k t169 t170 true).bind fun bt179 => (if (bt175.2.2 != (decide (t170 < 32))) = true then (signpostlaw1_AddrRules.j0 k a1 bt175.2.2 true t169 t170 t171 t172 bt175.1 bt175.2.1 bt179.1 bt179.2.1) else (signpostlaw1_AddrRules.j0 k a1 bt175.2.2 (bt179.2.2 != bt175.2.2) t169 t170 t171 t172 bt175.1 bt175.2.1 bt179.1 bt179.2.1)))) = some r := H
 have A6 := Aside0.mk A60
 clear A60
 replace H := Option.bind_eq_some_iff.mp H
 obtain ⟨⟨t175, t176, t177⟩, A70, H⟩ := H
 replace H : ((addr_Half.f k t169 t170 true).bind fun bt179 => (if (t177 != (decide (t170 < 32))) = true then (signpostlaw1_AddrRules.j0 k a1 t177 true t169 t170 t171 t172 t175 t176 bt179.1 bt179.2.1) else (signpostlaw1_AddrRules.j0 k a1 t177 (bt179.2.2 != t177) t169 t170 t171 t172 t175 t176 bt179.1 bt179.2.1))) = some r := H
 have A7 := Aside0.mk A70
 clear A70
 replace H := Option.bind_eq_some_iff.mp H
 obtain ⟨⟨t179, t180, t181⟩, A80, H⟩ := H
 replace H : (if (t177 != (decide (t170 < 32))) = true then (signpostlaw1_AddrRules.j0 k a1 t177 true t169 t170 t171 t172 t175 t176 t179 t180) else (signpostlaw1_AddrRules.j0 k a1 t177 (t181 != t177) t169 t170 t171 t172 t175 t176 t179 t180)) = some r := H
 have A8 := Aside0.mk A80
 clear A80
 have HC9 := Aside0.mk H
 clear H
 go_enter Tryd.func10, Tryd.ntmps10
 go_upto_region 4 with (first | ((with_reducible refine gate_callee (f := 11) rfl ?_); refine goesL_ (some 25) rfl rfl Tryd.func11 (by kernel_rfl) rfl #[.int .u32 a0, .int .i64 a2] rfl (by (try simp only [List.map_toArray, List.map_cons, List.map_nil]); first | done | rfl) ?_; (with_reducible refine (signpostkeep_Any.calls k a0 a2 t169 t170 _ A5.out).mono ?_); rintro e w10 ⟨rfl, hb⟩; refine ⟨_, rfl, ?_⟩; have n0_ := Aside0.mk (below_step (by repeat (first | (with_reducible first | exact HB.out | apply lA | apply lN | apply lD) | exact HB.out)) hb); clear HB; have HB := n0_; clear n0_; (try clear hb)) | ((with_reducible refine gate_callee (f := 11) rfl ?_); refine goesL_ (some 28) rfl rfl Tryd.func11 (by kernel_rfl) rfl #[.int .u32 a1, .int .i64 a3] rfl (by (try simp only [List.map_toArray, List.map_cons, List.map_nil]); first | done | rfl) ?_; (with_reducible refine (signpostkeep_Any.calls k a1 a3 t171 t172 _ A6.out).mono ?_); rintro e w11 ⟨rfl, hb⟩; refine ⟨_, rfl, ?_⟩; have n0_ := Aside0.mk (below_step (by repeat (first | (with_reducible first | exact HB.out | apply lA | apply lN | apply lD) | exact HB.out)) hb); clear HB; have HB := n0_; clear n0_; (try clear hb)) | ((with_reducible refine gate_dst (N := 9) rfl ?_); refine box_event ?hg (N := 9) ?hd (cs := #[.int .u32 0, .int .i64 0]) (t := 24) ?hr ?_; (case hd => rfl); (case hg => rfl); (case hr => first | (go_simp; done) | (go_simp; rfl)); intro gb173 hg w12 hbox hb; have n0_ := Aside0.mk (below_step (by repeat (first | (with_reducible first | exact HB.out | apply lA | apply lN | apply lD) | exact HB.out)) hb); have n1_ := Aside0.mk (hbox); have n2_ := Aside0.mk ((by rw [hg]; exact (below_size (by repeat (first | (with_reducible first | exact HB.out | apply lA | apply lN | apply lD) | exact HB.out))) : w.heap.size ≤ gb173)); have n3_ := Aside0.mk ((by rw [hg]; exact (below_size (by repeat (first | (with_reducible first | exact HB.out | apply lA | apply lN | apply lD) | exact HB.out))) : w.heap.size ≤ gb173)); clear HB; have HB := n0_; have BK173 := n1_; have GW173 := n2_; have GE173 := n3_; clear n0_ n1_ n2_ n3_; clear hb hbox hg) | ((with_reducible refine gate_dst (N := 10) rfl ?_); refine box_event ?hg (N := 10) ?hd (cs := #[.int .u32 0, .int .i64 0]) (t := 24) ?hr ?_; (case hd => rfl); (case hg => rfl); (case hr => first | (go_simp; done) | (go_simp; rfl)); intro gb174 hg w13 hbox hb; have n0_ := Aside0.mk (blk_below (g := gb173) (o := .cells #[.int .u32 0, .int .i64 0] 24 (0, 0)) (by (with_reducible repeat first | apply bN | apply bD | apply bA); exact BK173.out) hb); have n1_ := Aside0.mk (below_step (by repeat (first | (with_reducible first | exact HB.out | apply lA | apply lN | apply lD | apply lS GE173.out) | exact HB.out)) hb); have n2_ := Aside0.mk (hbox); have n3_ := Aside0.mk ((by rw [hg]; exact (below_size (by repeat (first | (with_reducible first | exact HB.out | apply lA | apply lN | apply lD | apply lS GE173.out) | exact HB.out))) : w.heap.size ≤ gb174)); have n4_ := Aside0.mk ((by rw [hg]; exact (below_size (by repeat (first | (with_reducible first | exact HB.out | apply lA | apply lN | apply lD | apply lS GE173.out) | exact HB.out))) : w.heap.size ≤ gb174)); have n5_ := Aside0.mk ((by rw [hg]; exact Nat.ne_of_lt (blk_lt (g := gb173) (o := .cells #[.int .u32 0, .int .i64 0] 24 (0, 0)) (by (with_reducible repeat first | apply bN | apply bD | apply bA); exact BK173.out)) : gb173 ≠ gb174)); have n6_ := Aside0.mk ((by rw [hg]; exact Nat.ne_of_gt (blk_lt (g := gb173) (o := .cells #[.int .u32 0, .int .i64 0] 24 (0, 0)) (by (with_reducible repeat first | apply bN | apply bD | apply bA); exact BK173.out)) : gb174 ≠ gb173)); clear BK173; clear HB; have BK173 := n0_; have HB := n1_; have BK174 := n2_; have GW174 := n3_; have GE174 := n4_; have NB173_174 := n5_; have NB174_173 := n6_; clear n0_ n1_ n2_ n3_ n4_ n5_ n6_; clear hb hbox hg; have hnb14 := NB173_174.out; have hnc14 := NB174_173.out; have hcz15_0 : w13.cell? ⟨gb173, 0, none⟩ = some (.int .u32 0) := (blk_cell BK173.out 0).trans rfl; have hcz15_1 : w13.cell? ⟨gb173, 1, none⟩ = some (.int .i64 0) := (blk_cell BK173.out 1).trans rfl; have hfz15_0 := blk_frozen BK173.out 0; have hfz15_1 := blk_frozen BK173.out 1; have hcz16_0 : w13.cell? ⟨gb174, 0, none⟩ = some (.int .u32 0) := (blk_cell BK174.out 0).trans rfl; have hcz16_1 : w13.cell? ⟨gb174, 1, none⟩ = some (.int .i64 0) := (blk_cell BK174.out 1).trans rfl; have hfz16_0 := blk_frozen BK174.out 0; have hfz16_1 := blk_frozen BK174.out 1) | ((with_reducible refine gate_callee (f := 23) rfl ?_); refine goesL_ (some 31) rfl rfl Tryd.func23 (by kernel_rfl) rfl #[.agg #[.int .u32 t169, .int .i64 t170], .bool false] rfl (by (try simp only [List.map_toArray, List.map_cons, List.map_nil]); first | done | rfl) ?_; (with_reducible refine (addr_Half.calls k t169 t170 false t175 t176 t177 _ A7.out).mono ?_); rintro e w17 ⟨rfl, hb⟩; refine ⟨_, rfl, ?_⟩; have n0_ := Aside0.mk (blk_below (g := gb173) (o := .cells #[.int .u32 t169, .int .i64 t170] 24 (0, 0)) (by (with_reducible repeat first | apply bN | apply bD | apply bA); refine blk_far ?_ NB173_174.out _; (with_reducible repeat first | apply bN | apply bD | apply bA); refine blk_far ?_ NB173_174.out _; (with_reducible repeat first | apply bN | apply bD | apply bA); refine blk_put (cs := #[.int .u32 t169, .int .i64 0]) ?_ 1 _ rfl; (with_reducible repeat first | apply bN | apply bD | apply bA); refine blk_put (cs := #[.int .u32 0, .int .i64 0]) ?_ 0 _ rfl; (with_reducible repeat first | apply bN | apply bD | apply bA); exact BK173.out) hb); have n1_ := Aside0.mk (blk_below (g := gb174) (o := .cells #[.int .u32 t171, .int .i64 t172] 24 (0, 0)) (by (with_reducible repeat first | apply bN | apply bD | apply bA); refine blk_put (cs := #[.int .u32 t171, .int .i64 0]) ?_ 1 _ rfl; (with_reducible repeat first | apply bN | apply bD | apply bA); refine blk_put (cs := #[.int .u32 0, .int .i64 0]) ?_ 0 _ rfl; (with_reducible repeat first | apply bN | apply bD | apply bA); refine blk_far ?_ NB174_173.out _; (with_reducible repeat first | apply bN | apply bD | apply bA); refine blk_far ?_ NB174_173.out _; (with_reducible repeat first | apply bN | apply bD | apply bA); exact BK174.out) hb); have n2_ := Aside0.mk (below_step (by repeat (first | (with_reducible first | exact HB.out | apply lA | apply lN | apply lD | apply lS GE173.out | apply lS GE174.out) | exact HB.out)) hb); clear BK173; clear BK174; clear HB; have BK173 := n0_; have BK174 := n1_; have HB := n2_; clear n0_ n1_ n2_; (try clear hb)) | ((with_reducible refine gate_dst (N := 11) rfl ?_); refine box_event ?hg (N := 11) ?hd (cs := #[.int .u32 0, .int .i64 0]) (t := 24) ?hr ?_; (case hd => rfl); (case hg => rfl); (case hr => first | (go_simp; done) | (go_simp; rfl)); intro gb178 hg w18 hbox hb; have n0_ := Aside0.mk (blk_below (g := gb173) (o := .cells #[.int .u32 t169, .int .i64 t170] 24 (0, 0)) (by (with_reducible repeat first | apply bN | apply bD | apply bA); exact BK173.out) hb); have n1_ := Aside0.mk (blk_below (g := gb174) (o := .cells #[.int .u32 t171, .int .i64 t172] 24 (0, 0)) (by (with_reducible repeat first | apply bN | apply bD | apply bA); exact BK174.out) hb); have n2_ := Aside0.mk (below_step (by repeat (first | (with_reducible first | exact HB.out | apply lA | apply lN | apply lD | apply lS GE173.out | apply lS GE174.out) | exact HB.out)) hb); have n3_ := Aside0.mk (hbox); have n4_ := Aside0.mk ((by rw [hg]; exact (below_size (by repeat (first | (with_reducible first | exact HB.out | apply lA | apply lN | apply lD | apply lS GE173.out | apply lS GE174.out) | exact HB.out))) : w.heap.size ≤ gb178)); have n5_ := Aside0.mk ((by rw [hg]; exact (below_size (by repeat (first | (with_reducible first | exact HB.out | apply lA | apply lN | apply lD | apply lS GE173.out | apply lS GE174.out) | exact HB.out))) : w.heap.size ≤ gb178)); have n6_ := Aside0.mk ((by rw [hg]; exact Nat.ne_of_lt (blk_lt (g := gb173) (o := .cells #[.int .u32 t169, .int .i64 t170] 24 (0, 0)) (by (with_reducible repeat first | apply bN | apply bD | apply bA); exact BK173.out)) : gb173 ≠ gb178)); have n7_ := Aside0.mk ((by rw [hg]; exact Nat.ne_of_gt (blk_lt (g := gb173) (o := .cells #[.int .u32 t169, .int .i64 t170] 24 (0, 0)) (by (with_reducible repeat first | apply bN | apply bD | apply bA); exact BK173.out)) : gb178 ≠ gb173)); have n8_ := Aside0.mk ((by rw [hg]; exact Nat.ne_of_lt (blk_lt (g := gb174) (o := .cells #[.int .u32 t171, .int .i64 t172] 24 (0, 0)) (by (with_reducible repeat first | apply bN | apply bD | apply bA); exact BK174.out)) : gb174 ≠ gb178)); have n9_ := Aside0.mk ((by rw [hg]; exact Nat.ne_of_gt (blk_lt (g := gb174) (o := .cells #[.int .u32 t171, .int .i64 t172] 24 (0, 0)) (by (with_reducible repeat first | apply bN | apply bD | apply bA); exact BK174.out)) : gb178 ≠ gb174)); clear BK173; clear BK174; clear HB; have BK173 := n0_; have BK174 := n1_; have HB := n2_; have BK178 := n3_; have GW178 := n4_; have GE178 := n5_; have NB173_178 := n6_; have NB178_173 := n7_; have NB174_178 := n8_; have NB178_174 := n9_; clear n0_ n1_ n2_ n3_ n4_ n5_ n6_ n7_ n8_ n9_; clear hb hbox hg; have hnb19 := NB178_173.out; have hnc19 := NB173_178.out; have hnb20 := NB178_174.out; have hnc20 := NB174_178.out; have hcz21_0 : w18.cell? ⟨gb178, 0, none⟩ = some (.int .u32 0) := (blk_cell BK178.out 0).trans rfl; have hcz21_1 : w18.cell? ⟨gb178, 1, none⟩ = some (.int .i64 0) := (blk_cell BK178.out 1).trans rfl; have hfz21_0 := blk_frozen BK178.out 0; have hfz21_1 := blk_frozen BK178.out 1; have hcz22_0 : w18.cell? ⟨gb173, 0, none⟩ = some (.int .u32 t169) := (blk_cell BK173.out 0).trans rfl; have hcz22_1 : w18.cell? ⟨gb173, 1, none⟩ = some (.int .i64 t170) := (blk_cell BK173.out 1).trans rfl; have hfz22_0 := blk_frozen BK173.out 0; have hfz22_1 := blk_frozen BK173.out 1) | ((with_reducible refine gate_callee (f := 23) rfl ?_); refine goesL_ (some 36) rfl rfl Tryd.func23 (by kernel_rfl) rfl #[.agg #[.int .u32 t169, .int .i64 t170], .bool true] rfl (by (try simp only [List.map_toArray, List.map_cons, List.map_nil]); first | done | rfl) ?_; (with_reducible refine (addr_Half.calls k t169 t170 true t179 t180 t181 _ A8.out).mono ?_); rintro e w23 ⟨rfl, hb⟩; refine ⟨_, rfl, ?_⟩; have n0_ := Aside0.mk (blk_below (g := gb173) (o := .cells #[.int .u32 t169, .int .i64 t170] 24 (0, 0)) (by (with_reducible repeat first | apply bN | apply bD | apply bA); refine blk_far ?_ NB173_178.out _; (with_reducible repeat first | apply bN | apply bD | apply bA); refine blk_far ?_ NB173_178.out _; (with_reducible repeat first | apply bN | apply bD | apply bA); exact BK173.out) hb); have n1_ := Aside0.mk (blk_below (g := gb174) (o := .cells #[.int .u32 t171, .int .i64 t172] 24 (0, 0)) (by (with_reducible repeat first | apply bN | apply bD | apply bA); refine blk_far ?_ NB174_178.out _; (with_reducible repeat first | apply bN | apply bD | apply bA); refine blk_far ?_ NB174_178.out _; (with_reducible repeat first | apply bN | apply bD | apply bA); exact BK174.out) hb); have n2_ := Aside0.mk (blk_below (g := gb178) (o := .cells #[.int .u32 t175, .int .i64 t176] 24 (0, 0)) (by (with_reducible repeat first | apply bN | apply bD | apply bA); refine blk_put (cs := #[.int .u32 t175, .int .i64 0]) ?_ 1 _ rfl; (with_reducible repeat first | apply bN | apply bD | apply bA); refine blk_put (cs := #[.int .u32 0, .int .i64 0]) ?_ 0 _ rfl; (with_reducible repeat first | apply bN | apply bD | apply bA); exact BK178.out) hb); have n3_ := Aside0.mk (below_step (by repeat (first | (with_reducible first | exact HB.out | apply lA | apply lN | apply lD | apply lS GE173.out | apply lS GE174.out | apply lS GE178.out) | exact HB.out)) hb); clear BK173; clear BK174; clear BK178; clear HB; have BK173 := n0_; have BK174 := n1_; have BK178 := n2_; have HB := n3_; clear n0_ n1_ n2_ n3_; (try clear hb)) | ((with_reducible refine gate_dst (N := 13) rfl ?_); refine box_event ?hg (N := 13) ?hd (cs := #[.int .u32 0, .int .i64 0]) (t := 24) ?hr ?_; (case hd => rfl); (case hg => rfl); (case hr => first | (go_simp; done) | (go_simp; rfl)); intro gb182 hg w24 hbox hb; have n0_ := Aside0.mk (blk_below (g := gb173) (o := .cells #[.int .u32 t169, .int .i64 t170] 24 (0, 0)) (by (with_reducible repeat first | apply bN | apply bD | apply bA); exact BK173.out) hb); have n1_ := Aside0.mk (blk_below (g := gb174) (o := .cells #[.int .u32 t171, .int .i64 t172] 24 (0, 0)) (by (with_reducible repeat first | apply bN | apply bD | apply bA); exact BK174.out) hb); have n2_ := Aside0.mk (blk_below (g := gb178) (o := .cells #[.int .u32 t175, .int .i64 t176] 24 (0, 0)) (by (with_reducible repeat first | apply bN | apply bD | apply bA); exact BK178.out) hb); have n3_ := Aside0.mk (below_step (by repeat (first | (with_reducible first | exact HB.out | apply lA | apply lN | apply lD | apply lS GE173.out | apply lS GE174.out | apply lS GE178.out) | exact HB.out)) hb); have n4_ := Aside0.mk (hbox); have n5_ := Aside0.mk ((by rw [hg]; exact (below_size (by repeat (first | (with_reducible first | exact HB.out | apply lA | apply lN | apply lD | apply lS GE173.out | apply lS GE174.out | apply lS GE178.out) | exact HB.out))) : w.heap.size ≤ gb182)); have n6_ := Aside0.mk ((by rw [hg]; exact (below_size (by repeat (first | (with_reducible first | exact HB.out | apply lA | apply lN | apply lD | apply lS GE173.out | apply lS GE174.out | apply lS GE178.out) | exact HB.out))) : w.heap.size ≤ gb182)); have n7_ := Aside0.mk ((by rw [hg]; exact Nat.ne_of_lt (blk_lt (g := gb173) (o := .cells #[.int .u32 t169, .int .i64 t170] 24 (0, 0)) (by (with_reducible repeat first | apply bN | apply bD | apply bA); exact BK173.out)) : gb173 ≠ gb182)); have n8_ := Aside0.mk ((by rw [hg]; exact Nat.ne_of_gt (blk_lt (g := gb173) (o := .cells #[.int .u32 t169, .int .i64 t170] 24 (0, 0)) (by (with_reducible repeat first | apply bN | apply bD | apply bA); exact BK173.out)) : gb182 ≠ gb173)); have n9_ := Aside0.mk ((by rw [hg]; exact Nat.ne_of_lt (blk_lt (g := gb174) (o := .cells #[.int .u32 t171, .int .i64 t172] 24 (0, 0)) (by (with_reducible repeat first | apply bN | apply bD | apply bA); exact BK174.out)) : gb174 ≠ gb182)); have n10_ := Aside0.mk ((by rw [hg]; exact Nat.ne_of_gt (blk_lt (g := gb174) (o := .cells #[.int .u32 t171, .int .i64 t172] 24 (0, 0)) (by (with_reducible repeat first | apply bN | apply bD | apply bA); exact BK174.out)) : gb182 ≠ gb174)); have n11_ := Aside0.mk ((by rw [hg]; exact Nat.ne_of_lt (blk_lt (g := gb178) (o := .cells #[.int .u32 t175, .int .i64 t176] 24 (0, 0)) (by (with_reducible repeat first | apply bN | apply bD | apply bA); exact BK178.out)) : gb178 ≠ gb182)); have n12_ := Aside0.mk ((by rw [hg]; exact Nat.ne_of_gt (blk_lt (g := gb178) (o := .cells #[.int .u32 t175, .int .i64 t176] 24 (0, 0)) (by (with_reducible repeat first | apply bN | apply bD | apply bA); exact BK178.out)) : gb182 ≠ gb178)); clear BK173; clear BK174; clear BK178; clear HB; have BK173 := n0_; have BK174 := n1_; have BK178 := n2_; have HB := n3_; have BK182 := n4_; have GW182 := n5_; have GE182 := n6_; have NB173_182 := n7_; have NB182_173 := n8_; have NB174_182 := n9_; have NB182_174 := n10_; have NB178_182 := n11_; have NB182_178 := n12_; clear n0_ n1_ n2_ n3_ n4_ n5_ n6_ n7_ n8_ n9_ n10_ n11_ n12_; clear hb hbox hg; have hnb25 := NB182_173.out; have hnc25 := NB173_182.out; have hnb26 := NB182_174.out; have hnc26 := NB174_182.out; have hnb27 := NB182_178.out; have hnc27 := NB178_182.out; have hcz28_0 : w24.cell? ⟨gb182, 0, none⟩ = some (.int .u32 0) := (blk_cell BK182.out 0).trans rfl; have hcz28_1 : w24.cell? ⟨gb182, 1, none⟩ = some (.int .i64 0) := (blk_cell BK182.out 1).trans rfl; have hfz28_0 := blk_frozen BK182.out 0; have hfz28_1 := blk_frozen BK182.out 1))
 (try simp only [Act.put, List.setIfInBounds_toArray, List.set_cons_zero, List.set_cons_succ])
 go_cut [48] (fun v48 wc => ∃ (kq : Nat) (x48_8 : Bool), v48 = .bool x48_8 ∧ Aside0 (signpostlaw1_AddrRules.j0 kq a1 t177 x48_8 t169 t170 t171 t172 t175 t176 t179 t180 = some r) ∧ Aside0 (kq ≤ k) ∧ Aside0 (wc.heap[gb173]? = some (.cells #[.int .u32 t169, .int .i64 t170] 24 (0, 0))) ∧ Aside0 (wc.heap[gb174]? = some (.cells #[.int .u32 t171, .int .i64 t172] 24 (0, 0))) ∧ Aside0 (wc.heap[gb178]? = some (.cells #[.int .u32 t175, .int .i64 t176] 24 (0, 0))) ∧ Aside0 (wc.heap[gb182]? = some (.cells #[.int .u32 t179, .int .i64 t180] 24 (0, 0))) ∧ Aside0 (Below w.heap.size w wc))
 case first =>
  have H := HC9.out
  clear HC9
  by_cases c29 : (t177 != (decide (t170 < 32))) = true
  ·rw [if_pos c29] at H
   exact absurd (H.trans (congrArg some hr)) (signpostlaw1_AddrRules.j0_dead _ _ _ _ _ _ _ _ _ _ _)
  ·rw [if_neg c29] at H
   have c29b0 : (t177 != (decide (t170 < 32))) = false := by simpa using c29
   (try (have c29b1 : decide (t177 = (decide (t170 < 32))) = true := by simpa using c29))
   (try (have c29b2 : (t177 == (decide (t170 < 32))) = true := by simpa using c29))
   clear c29
   (first | rw [c29b0] | (simp only [i64_w, i32_w]; rw [c29b0]) | skip)
   have H' := Aside0.mk H
   clear H
   have hnb34 := NB173_174.out
   have hnc34 := NB174_173.out
   have hnb35 := NB173_178.out
   have hnc35 := NB178_173.out
   have hnb36 := NB173_182.out
   have hnc36 := NB182_173.out
   have hcz37_0 : w24.cell? ⟨gb173, 0, none⟩ = some (.int .u32 t169) := (blk_cell BK173.out 0).trans rfl
   have hcz37_1 : w24.cell? ⟨gb173, 1, none⟩ = some (.int .i64 t170) := (blk_cell BK173.out 1).trans rfl
   have hfz37_0 := blk_frozen BK173.out 0
   have hfz37_1 := blk_frozen BK173.out 1
   go_wp2
   go_meet
   case rel => exact ⟨_, ((t181 != t177)), (by first | rfl | (simp; done) | (simp [*]; done)), H', ⟨by first | omega | exact Nat.le_refl _⟩, ⟨by (with_reducible repeat first | apply bN | apply bD | apply bA); refine blk_far ?_ NB173_182.out _; (with_reducible repeat first | apply bN | apply bD | apply bA); refine blk_far ?_ NB173_182.out _; (with_reducible repeat first | apply bN | apply bD | apply bA); exact BK173.out⟩, ⟨by (with_reducible repeat first | apply bN | apply bD | apply bA); refine blk_far ?_ NB174_182.out _; (with_reducible repeat first | apply bN | apply bD | apply bA); refine blk_far ?_ NB174_182.out _; (with_reducible repeat first | apply bN | apply bD | apply bA); exact BK174.out⟩, ⟨by (with_reducible repeat first | apply bN | apply bD | apply bA); refine blk_far ?_ NB178_182.out _; (with_reducible repeat first | apply bN | apply bD | apply bA); refine blk_far ?_ NB178_182.out _; (with_reducible repeat first | apply bN | apply bD | apply bA); exact BK178.out⟩, ⟨by (with_reducible repeat first | apply bN | apply bD | apply bA); refine blk_put (cs := #[.int .u32 t179, .int .i64 0]) ?_ 1 _ rfl; (with_reducible repeat first | apply bN | apply bD | apply bA); refine blk_put (cs := #[.int .u32 0, .int .i64 0]) ?_ 0 _ rfl; (with_reducible repeat first | apply bN | apply bD | apply bA); exact BK182.out⟩, ⟨by repeat (first | (with_reducible first | exact HB.out | apply lA | apply lN | apply lD | apply lS GE173.out | apply lS GE174.out | apply lS GE178.out | apply lS GE182.out) | exact HB.out)⟩⟩
 case rest =>
  clear HC9
  try clear c1
  try clear c2
  try clear p2
  try clear c3
  try clear c10
  try clear c11
  try clear c14
  try clear c19
  try clear c20
  try clear c23
  try clear c25
  try clear c26
  try clear c27
  try clear c29
  try clear c29b0
  try clear c29b1
  try clear c29b2
  try clear c30
  try clear c31
  try clear c32
  try clear c34
  try clear c35
  try clear c36
  try clear hcz15_0
  try clear hcz15_1
  try clear hcz16_0
  try clear hcz16_1
  try clear hcz21_0
  try clear hcz21_1
  try clear hcz22_0
  try clear hcz22_1
  try clear hcz28_0
  try clear hcz28_1
  try clear hcz33_0
  try clear hcz33_1
  try clear hcz37_0
  try clear hcz37_1
  try clear hfz15_0
  try clear hfz15_1
  try clear hfz16_0
  try clear hfz16_1
  try clear hfz21_0
  try clear hfz21_1
  try clear hfz22_0
  try clear hfz22_1
  try clear hfz28_0
  try clear hfz28_1
  try clear hfz33_0
  try clear hfz33_1
  try clear hfz37_0
  try clear hfz37_1
  obtain ⟨kq, x48_8, rfl, HA, HJ8, BK173, BK174, BK178, BK182, HB⟩ := hcut
  cases kq with
  | zero => exact absurd HA.out (by simp [signpostlaw1_AddrRules.j0])
  | succ kj8 =>
   have H := HA.out
   clear HA
   simp only [signpostlaw1_AddrRules.j0] at H
   by_cases c38 : x48_8 = true
   ·subst c38
    have H1 : (some false) = some r := by rw [if_pos rfl] at H; exact H
    clear H
    have H := H1
    clear H1
    exact absurd ((Option.some.inj H).trans hr) (by decide)
   ·replace c38 := Bool.eq_false_iff.mpr c38
    subst c38
    have H1 : (if t177 = true then ((addr_Up.f t175 t176).bind fun bt183 => ((addr_Up.f t179 t180).bind fun bt187 => (if bt183.2.2 = true then (if bt187.2.2 = true then (if (!(bt183.1 == t169) || (!(bt183.2.1 == t170))) = true then (some false) else (if (!(bt187.1 == t169) || (!(bt187.2.1 == t170))) = true then (some false) else ((addr_Less.f t169 t170 t175 t176).bind fun t191 => (if t191 = true then ((addr_Less.f t175 t176 t179 t180).bind fun t192 => (if t192 = true then ((addr_Has.f t175 t176 a1).bind fun t193 => (if t193 = true then ((addr_Has.f t179 t180 a1).bind fun t194 => (if t194 = true then (some false) else ((addr_Has.f t169 t170 a1).bind fun t195 => ((addr_Has.f t175 t176 a1).bind fun t196 => (if t196 = true then (if (t195 != true) = true then (some false) else (signpostlaw1_AddrRules.j1 kj8 t169 t170 t171 t172)) else ((addr_Has.f t179 t180 a1).bind fun t197 => (if (t195 != t197) = true then (some false) else (signpostlaw1_AddrRules.j1 kj8 t169 t170 t171 t172)))))))) else ((addr_Has.f t169 t170 a1).bind fun t198 => ((addr_Has.f t175 t176 a1).bind fun t199 => (if t199 = true then (if (t198 != true) = true then (some false) else (signpostlaw1_AddrRules.j1 kj8 t169 t170 t171 t172)) else ((addr_Has.f t179 t180 a1).bind fun t200 => (if (t198 != t200) = true then (some false) else (signpostlaw1_AddrRules.j1 kj8 t169 t170 t171 t172)))))))) else (some false))) else (some false))))) else (some false)) else (some false)))) else (signpostlaw1_AddrRules.j1 kj8 t169 t170 t171 t172)) = some r := by rw [if_neg (show ¬ (false = true) by decide)] at H; exact H
    clear H
    have H := H1
    clear H1
    have HC39 := Aside0.mk H
    clear H
    go_upto_if 49 with (fail)
    go_cut [] (fun wc => ∃ (kq : Nat), Aside0 (signpostlaw1_AddrRules.j1 kq t169 t170 t171 t172 = some r) ∧ Aside0 (kq ≤ kj8) ∧ Aside0 (wc.heap[gb173]? = some (.cells #[.int .u32 t169, .int .i64 t170] 24 (0, 0))) ∧ Aside0 (wc.heap[gb174]? = some (.cells #[.int .u32 t171, .int .i64 t172] 24 (0, 0))) ∧ Aside0 (wc.heap[gb178]? = some (.cells #[.int .u32 t175, .int .i64 t176] 24 (0, 0))) ∧ Aside0 (wc.heap[gb182]? = some (.cells #[.int .u32 t179, .int .i64 t180] 24 (0, 0))) ∧ Aside0 (Below w.heap.size w wc))
    case first =>
     have H := HC39.out
     clear HC39
     by_cases c40 : t177 = true
     ·subst c40
      have H1 : ((addr_Up.f t175 t176).bind fun bt183 => ((addr_Up.f t179 t180).bind fun bt187 => (if bt183.2.2 = true then (if bt187.2.2 = true then (if (!(bt183.1 == t169) || (!(bt183.2.1 == t170))) = true then (some false) else (if (!(bt187.1 == t169) || (!(bt187.2.1 == t170))) = true then (some false) else ((addr_Less.f t169 t170 t175 t176).bind fun t191 => (if t191 = true then ((addr_Less.f t175 t176 t179 t180).bind fun t192 => (if t192 = true then ((addr_Has.f t175 t176 a1).bind fun t193 => (if t193 = true then ((addr_Has.f t179 t180 a1).bind fun t194 => (if t194 = true then (some false) else ((addr_Has.f t169 t170 a1).bind fun t195 => ((addr_Has.f t175 t176 a1).bind fun t196 => (if t196 = true then (if (t195 != true) = true then (some false) else (signpostlaw1_AddrRules.j1 kj8 t169 t170 t171 t172)) else ((addr_Has.f t179 t180 a1).bind fun t197 => (if (t195 != t197) = true then (some false) else (signpostlaw1_AddrRules.j1 kj8 t169 t170 t171 t172)))))))) else ((addr_Has.f t169 t170 a1).bind fun t198 => ((addr_Has.f t175 t176 a1).bind fun t199 => (if t199 = true then (if (t198 != true) = true then (some false) else (signpostlaw1_AddrRules.j1 kj8 t169 t170 t171 t172)) else ((addr_Has.f t179 t180 a1).bind fun t200 => (if (t198 != t200) = true then (some false) else (signpostlaw1_AddrRules.j1 kj8 t169 t170 t171 t172)))))))) else (some false))) else (some false))))) else (some false)) else (some false)))) = some r := by rw [if_pos rfl] at H; exact H
      clear H
      have H := H1
      clear H1
      replace H := Option.bind_eq_some_iff.mp H
      obtain ⟨⟨t183, t184, t185⟩, A410, H⟩ := H
      replace H : ((addr_Up.f t179 t180).bind fun bt187 => (if t185 = true then (if bt187.2.2 = true then (if (!(t183 == t169) || (!(t184 == t170))) = true then (some false) else (if (!(bt187.1 == t169) || (!(bt187.2.1 == t170))) = true then (some false) else ((addr_Less.f t169 t170 t175 t176).bind fun t191 => (if t191 = true then ((addr_Less.f t175 t176 t179 t180).bind fun t192 => (if t192 = true then ((addr_Has.f t175 t176 a1).bind fun t193 => (if t193 = true then ((addr_Has.f t179 t180 a1).bind fun t194 => (if t194 = true then (some false) else ((addr_Has.f t169 t170 a1).bind fun t195 => ((addr_Has.f t175 t176 a1).bind fun t196 => (if t196 = true then (if (t195 != true) = true then (some false) else (signpostlaw1_AddrRules.j1 kj8 t169 t170 t171 t172)) else ((addr_Has.f t179 t180 a1).bind fun t197 => (if (t195 != t197) = true then (some false) else (signpostlaw1_AddrRules.j1 kj8 t169 t170 t171 t172)))))))) else ((addr_Has.f t169 t170 a1).bind fun t198 => ((addr_Has.f t175 t176 a1).bind fun t199 => (if t199 = true then (if (t198 != true) = true then (some false) else (signpostlaw1_AddrRules.j1 kj8 t169 t170 t171 t172)) else ((addr_Has.f t179 t180 a1).bind fun t200 => (if (t198 != t200) = true then (some false) else (signpostlaw1_AddrRules.j1 kj8 t169 t170 t171 t172)))))))) else (some false))) else (some false))))) else (some false)) else (some false))) = some r := H
      have A41 := Aside0.mk A410
      clear A410
      replace H := Option.bind_eq_some_iff.mp H
      obtain ⟨⟨t187, t188, t189⟩, A420, H⟩ := H
      replace H : (if t185 = true then (if t189 = true then (if (!(t183 == t169) || (!(t184 == t170))) = true then (some false) else (if (!(t187 == t169) || (!(t188 == t170))) = true then (some false) else ((addr_Less.f t169 t170 t175 t176).bind fun t191 => (if t191 = true then ((addr_Less.f t175 t176 t179 t180).bind fun t192 => (if t192 = true then ((addr_Has.f t175 t176 a1).bind fun t193 => (if t193 = true then ((addr_Has.f t179 t180 a1).bind fun t194 => (if t194 = true then (some false) else ((addr_Has.f t169 t170 a1).bind fun t195 => ((addr_Has.f t175 t176 a1).bind fun t196 => (if t196 = true then (if (t195 != true) = true then (some false) else (signpostlaw1_AddrRules.j1 kj8 t169 t170 t171 t172)) else ((addr_Has.f t179 t180 a1).bind fun t197 => (if (t195 != t197) = true then (some false) else (signpostlaw1_AddrRules.j1 kj8 t169 t170 t171 t172)))))))) else ((addr_Has.f t169 t170 a1).bind fun t198 => ((addr_Has.f t175 t176 a1).bind fun t199 => (if t199 = true then (if (t198 != true) = true then (some false) else (signpostlaw1_AddrRules.j1 kj8 t169 t170 t171 t172)) else ((addr_Has.f t179 t180 a1).bind fun t200 => (if (t198 != t200) = true then (some false) else (signpostlaw1_AddrRules.j1 kj8 t169 t170 t171 t172)))))))) else (some false))) else (some false))))) else (some false)) else (some false)) = some r := H
      have A42 := Aside0.mk A420
      clear A420
      by_cases c43 : t185 = true
      ·subst c43
       have H1 : (if t189 = true then (if (!(t183 == t169) || (!(t184 == t170))) = true then (some false) else (if (!(t187 == t169) || (!(t188 == t170))) = true then (some false) else ((addr_Less.f t169 t170 t175 t176).bind fun t191 => (if t191 = true then ((addr_Less.f t175 t176 t179 t180).bind fun t192 => (if t192 = true then ((addr_Has.f t175 t176 a1).bind fun t193 => (if t193 = true then ((addr_Has.f t179 t180 a1).bind fun t194 => (if t194 = true then (some false) else ((addr_Has.f t169 t170 a1).bind fun t195 => ((addr_Has.f t175 t176 a1).bind fun t196 => (if t196 = true then (if (t195 != true) = true then (some false) else (signpostlaw1_AddrRules.j1 kj8 t169 t170 t171 t172)) else ((addr_Has.f t179 t180 a1).bind fun t197 => (if (t195 != t197) = true then (some false) else (signpostlaw1_AddrRules.j1 kj8 t169 t170 t171 t172)))))))) else ((addr_Has.f t169 t170 a1).bind fun t198 => ((addr_Has.f t175 t176 a1).bind fun t199 => (if t199 = true then (if (t198 != true) = true then (some false) else (signpostlaw1_AddrRules.j1 kj8 t169 t170 t171 t172)) else ((addr_Has.f t179 t180 a1).bind fun t200 => (if (t198 != t200) = true then (some false) else (signpostlaw1_AddrRules.j1 kj8 t169 t170 t171 t172)))))))) else (some false))) else (some false))))) else (some false)) = some r := by rw [if_pos rfl] at H; exact H
       clear H
       have H := H1
       clear H1
       by_cases c44 : t189 = true
       ·subst c44
        have H1 : (if (!(t183 == t169) || (!(t184 == t170))) = true then (some false) else (if (!(t187 == t169) || (!(t188 == t170))) = true then (some false) else ((addr_Less.f t169 t170 t175 t176).bind fun t191 => (if t191 = true then ((addr_Less.f t175 t176 t179 t180).bind fun t192 => (if t192 = true then ((addr_Has.f t175 t176 a1).bind fun t193 => (if t193 = true then ((addr_Has.f t179 t180 a1).bind fun t194 => (if t194 = true then (some false) else ((addr_Has.f t169 t170 a1).bind fun t195 => ((addr_Has.f t175 t176 a1).bind fun t196 => (if t196 = true then (if (t195 != true) = true then (some false) else (signpostlaw1_AddrRules.j1 kj8 t169 t170 t171 t172)) else ((addr_Has.f t179 t180 a1).bind fun t197 => (if (t195 != t197) = true then (some false) else (signpostlaw1_AddrRules.j1 kj8 t169 t170 t171 t172)))))))) else ((addr_Has.f t169 t170 a1).bind fun t198 => ((addr_Has.f t175 t176 a1).bind fun t199 => (if t199 = true then (if (t198 != true) = true then (some false) else (signpostlaw1_AddrRules.j1 kj8 t169 t170 t171 t172)) else ((addr_Has.f t179 t180 a1).bind fun t200 => (if (t198 != t200) = true then (some false) else (signpostlaw1_AddrRules.j1 kj8 t169 t170 t171 t172)))))))) else (some false))) else (some false))))) = some r := by rw [if_pos rfl] at H; exact H
        clear H
        have H := H1
        clear H1
        by_cases c45 : (!(t183 == t169) || (!(t184 == t170))) = true
        ·rw [if_pos c45] at H
         have c45b0 : (!(t183 == t169) || (!(t184 == t170))) = true := c45
         clear c45
         (first | rw [c45b0] | (simp only [i64_w, i32_w]; rw [c45b0]) | skip)
         exact absurd ((Option.some.inj H).trans hr) (by decide)
        ·rw [if_neg c45] at H
         have c45b0 : (!(t183 == t169) || (!(t184 == t170))) = false := by simpa using c45
         clear c45
         (first | rw [c45b0] | (simp only [i64_w, i32_w]; rw [c45b0]) | skip)
         by_cases c70 : (!(t187 == t169) || (!(t188 == t170))) = true
         ·rw [if_pos c70] at H
          have c70b0 : (!(t187 == t169) || (!(t188 == t170))) = true := c70
          clear c70
          exact absurd ((Option.some.inj H).trans hr) (by decide)
         ·rw [if_neg c70] at H
          have c70b0 : (!(t187 == t169) || (!(t188 == t170))) = false := by simpa using c70
          clear c70
          replace H := Option.bind_eq_some_iff.mp H
          obtain ⟨t191, A950, H⟩ := H
          replace H : (if t191 = true then ((addr_Less.f t175 t176 t179 t180).bind fun t192 => (if t192 = true then ((addr_Has.f t175 t176 a1).bind fun t193 => (if t193 = true then ((addr_Has.f t179 t180 a1).bind fun t194 => (if t194 = true then (some false) else ((addr_Has.f t169 t170 a1).bind fun t195 => ((addr_Has.f t175 t176 a1).bind fun t196 => (if t196 = true then (if (t195 != true) = true then (some false) else (signpostlaw1_AddrRules.j1 kj8 t169 t170 t171 t172)) else ((addr_Has.f t179 t180 a1).bind fun t197 => (if (t195 != t197) = true then (some false) else (signpostlaw1_AddrRules.j1 kj8 t169 t170 t171 t172)))))))) else ((addr_Has.f t169 t170 a1).bind fun t198 => ((addr_Has.f t175 t176 a1).bind fun t199 => (if t199 = true then (if (t198 != true) = true then (some false) else (signpostlaw1_AddrRules.j1 kj8 t169 t170 t171 t172)) else ((addr_Has.f t179 t180 a1).bind fun t200 => (if (t198 != t200) = true then (some false) else (signpostlaw1_AddrRules.j1 kj8 t169 t170 t171 t172)))))))) else (some false))) else (some false)) = some r := H
          have A95 := Aside0.mk A950
          clear A950
          by_cases c96 : t191 = true
          ·subst c96
           have H1 : ((addr_Less.f t175 t176 t179 t180).bind fun t192 => (if t192 = true then ((addr_Has.f t175 t176 a1).bind fun t193 => (if t193 = true then ((addr_Has.f t179 t180 a1).bind fun t194 => (if t194 = true then (some false) else ((addr_Has.f t169 t170 a1).bind fun t195 => ((addr_Has.f t175 t176 a1).bind fun t196 => (if t196 = true then (if (t195 != true) = true then (some false) else (signpostlaw1_AddrRules.j1 kj8 t169 t170 t171 t172)) else ((addr_Has.f t179 t180 a1).bind fun t197 => (if (t195 != t197) = true then (some false) else (signpostlaw1_AddrRules.j1 kj8 t169 t170 t171 t172)))))))) else ((addr_Has.f t169 t170 a1).bind fun t198 => ((addr_Has.f t175 t176 a1).bind fun t199 => (if t199 = true then (if (t198 != true) = true then (some false) else (signpostlaw1_AddrRules.j1 kj8 t169 t170 t171 t172)) else ((addr_Has.f t179 t180 a1).bind fun t200 => (if (t198 != t200) = true then (some false) else (signpostlaw1_AddrRules.j1 kj8 t169 t170 t171 t172)))))))) else (some false))) = some r := by rw [if_pos rfl] at H; exact H
           clear H
           have H := H1
           clear H1
           replace H := Option.bind_eq_some_iff.mp H
           obtain ⟨t192, A970, H⟩ := H
           replace H : (if t192 = true then ((addr_Has.f t175 t176 a1).bind fun t193 => (if t193 = true then ((addr_Has.f t179 t180 a1).bind fun t194 => (if t194 = true then (some false) else ((addr_Has.f t169 t170 a1).bind fun t195 => ((addr_Has.f t175 t176 a1).bind fun t196 => (if t196 = true then (if (t195 != true) = true then (some false) else (signpostlaw1_AddrRules.j1 kj8 t169 t170 t171 t172)) else ((addr_Has.f t179 t180 a1).bind fun t197 => (if (t195 != t197) = true then (some false) else (signpostlaw1_AddrRules.j1 kj8 t169 t170 t171 t172)))))))) else ((addr_Has.f t169 t170 a1).bind fun t198 => ((addr_Has.f t175 t176 a1).bind fun t199 => (if t199 = true then (if (t198 != true) = true then (some false) else (signpostlaw1_AddrRules.j1 kj8 t169 t170 t171 t172)) else ((addr_Has.f t179 t180 a1).bind fun t200 => (if (t198 != t200) = true then (some false) else (signpostlaw1_AddrRules.j1 kj8 t169 t170 t171 t172)))))))) else (some false)) = some r := H
           have A97 := Aside0.mk A970
           clear A970
           by_cases c98 : t192 = true
           ·subst c98
            have H1 : ((addr_Has.f t175 t176 a1).bind fun t193 => (if t193 = true then ((addr_Has.f t179 t180 a1).bind fun t194 => (if t194 = true then (some false) else ((addr_Has.f t169 t170 a1).bind fun t195 => ((addr_Has.f t175 t176 a1).bind fun t196 => (if t196 = true then (if (t195 != true) = true then (some false) else (signpostlaw1_AddrRules.j1 kj8 t169 t170 t171 t172)) else ((addr_Has.f t179 t180 a1).bind fun t197 => (if (t195 != t197) = true then (some false) else (signpostlaw1_AddrRules.j1 kj8 t169 t170 t171 t172)))))))) else ((addr_Has.f t169 t170 a1).bind fun t198 => ((addr_Has.f t175 t176 a1).bind fun t199 => (if t199 = true then (if (t198 != true) = true then (some false) else (signpostlaw1_AddrRules.j1 kj8 t169 t170 t171 t172)) else ((addr_Has.f t179 t180 a1).bind fun t200 => (if (t198 != t200) = true then (some false) else (signpostlaw1_AddrRules.j1 kj8 t169 t170 t171 t172)))))))) = some r := by rw [if_pos rfl] at H; exact H
            clear H
            have H := H1
            clear H1
            replace H := Option.bind_eq_some_iff.mp H
            obtain ⟨t193, A990, H⟩ := H
            replace H : (if t193 = true then ((addr_Has.f t179 t180 a1).bind fun t194 => (if t194 = true then (some false) else ((addr_Has.f t169 t170 a1).bind fun t195 => ((addr_Has.f t175 t176 a1).bind fun t196 => (if t196 = true then (if (t195 != true) = true then (some false) else (signpostlaw1_AddrRules.j1 kj8 t169 t170 t171 t172)) else ((addr_Has.f t179 t180 a1).bind fun t197 => (if (t195 != t197) = true then (some false) else (signpostlaw1_AddrRules.j1 kj8 t169 t170 t171 t172)))))))) else ((addr_Has.f t169 t170 a1).bind fun t198 => ((addr_Has.f t175 t176 a1).bind fun t199 => (if t199 = true then (if (t198 != true) = true then (some false) else (signpostlaw1_AddrRules.j1 kj8 t169 t170 t171 t172)) else ((addr_Has.f t179 t180 a1).bind fun t200 => (if (t198 != t200) = true then (some false) else (signpostlaw1_AddrRules.j1 kj8 t169 t170 t171 t172))))))) = some r := H
            have A99 := Aside0.mk A990
            clear A990
            by_cases c100 : t193 = true
            ·subst c100
             have H1 : ((addr_Has.f t179 t180 a1).bind fun t194 => (if t194 = true then (some false) else ((addr_Has.f t169 t170 a1).bind fun t195 => ((addr_Has.f t175 t176 a1).bind fun t196 => (if t196 = true then (if (t195 != true) = true then (some false) else (signpostlaw1_AddrRules.j1 kj8 t169 t170 t171 t172)) else ((addr_Has.f t179 t180 a1).bind fun t197 => (if (t195 != t197) = true then (some false) else (signpostlaw1_AddrRules.j1 kj8 t169 t170 t171 t172)))))))) = some r := by rw [if_pos rfl] at H; exact H
             clear H
             have H := H1
             clear H1
             replace H := Option.bind_eq_some_iff.mp H
             obtain ⟨t194, A1010, H⟩ := H
             replace H : (if t194 = true then (some false) else ((addr_Has.f t169 t170 a1).bind fun t195 => ((addr_Has.f t175 t176 a1).bind fun t196 => (if t196 = true then (if (t195 != true) = true then (some false) else (signpostlaw1_AddrRules.j1 kj8 t169 t170 t171 t172)) else ((addr_Has.f t179 t180 a1).bind fun t197 => (if (t195 != t197) = true then (some false) else (signpostlaw1_AddrRules.j1 kj8 t169 t170 t171 t172))))))) = some r := H
             have A101 := Aside0.mk A1010
             clear A1010
             by_cases c102 : t194 = true
             ·subst c102
              have H1 : (some false) = some r := by rw [if_pos rfl] at H; exact H
              clear H
              have H := H1
              clear H1
              exact absurd ((Option.some.inj H).trans hr) (by decide)
             ·replace c102 := Bool.eq_false_iff.mpr c102
              subst c102
              have H1 : ((addr_Has.f t169 t170 a1).bind fun t195 => ((addr_Has.f t175 t176 a1).bind fun t196 => (if t196 = true then (if (t195 != true) = true then (some false) else (signpostlaw1_AddrRules.j1 kj8 t169 t170 t171 t172)) else ((addr_Has.f t179 t180 a1).bind fun t197 => (if (t195 != t197) = true then (some false) else (signpostlaw1_AddrRules.j1 kj8 t169 t170 t171 t172)))))) = some r := by rw [if_neg (show ¬ (false = true) by decide)] at H; exact H
              clear H
              have H := H1
              clear H1
              replace H := Option.bind_eq_some_iff.mp H
              obtain ⟨t195, A1310, H⟩ := H
              replace H : ((addr_Has.f t175 t176 a1).bind fun t196 => (if t196 = true then (if (t195 != true) = true then (some false) else (signpostlaw1_AddrRules.j1 kj8 t169 t170 t171 t172)) else ((addr_Has.f t179 t180 a1).bind fun t197 => (if (t195 != t197) = true then (some false) else (signpostlaw1_AddrRules.j1 kj8 t169 t170 t171 t172))))) = some r := H
              have A131 := Aside0.mk A1310
              clear A1310
              replace H := Option.bind_eq_some_iff.mp H
              obtain ⟨t196, A1320, H⟩ := H
              replace H : (if t196 = true then (if (t195 != true) = true then (some false) else (signpostlaw1_AddrRules.j1 kj8 t169 t170 t171 t172)) else ((addr_Has.f t179 t180 a1).bind fun t197 => (if (t195 != t197) = true then (some false) else (signpostlaw1_AddrRules.j1 kj8 t169 t170 t171 t172)))) = some r := H
              have A132 := Aside0.mk A1320
              clear A1320
              by_cases c133 : t196 = true
              ·subst c133
               have H1 : (if (t195 != true) = true then (some false) else (signpostlaw1_AddrRules.j1 kj8 t169 t170 t171 t172)) = some r := by rw [if_pos rfl] at H; exact H
               clear H
               have H := H1
               clear H1
               by_cases c134 : (t195 != true) = true
               ·rw [if_pos c134] at H
                have c134b0 : (t195 != true) = true := c134
                (try (have c134b1 : decide (t195 = true) = false := by simpa using c134))
                (try (have c134b2 : (t195 == true) = false := by simpa using c134))
                (try (have c134b3 : ¬ (t195 = true) := by simpa using c134))
                clear c134
                exact absurd ((Option.some.inj H).trans hr) (by decide)
               ·rw [if_neg c134] at H
                have c134b0 : (t195 != true) = false := by simpa using c134
                (try (have c134b1 : decide (t195 = true) = true := by simpa using c134))
                (try (have c134b2 : (t195 == true) = true := by simpa using c134))
                clear c134
                have H' := Aside0.mk H
                clear H
                have hnb165 := NB178_173.out
                have hnc165 := NB173_178.out
                have hnb166 := NB178_174.out
                have hnc166 := NB174_178.out
                have hnb167 := NB178_182.out
                have hnc167 := NB182_178.out
                have hcz168_0 : wc.cell? ⟨gb178, 0, none⟩ = some (.int .u32 t175) := (blk_cell BK178.out 0).trans rfl
                have hcz168_1 : wc.cell? ⟨gb178, 1, none⟩ = some (.int .i64 t176) := (blk_cell BK178.out 1).trans rfl
                have hfz168_0 := blk_frozen BK178.out 0
                have hfz168_1 := blk_frozen BK178.out 1
                try go_wp2_with (first | ((with_reducible refine gate_callee (f := 21) rfl ?_); refine goesL_ (some 52) rfl rfl Tryd.func21 (by kernel_rfl) rfl #[.agg #[.int .u32 t175, .int .i64 t176]] rfl (by (try simp only [List.map_toArray, List.map_cons, List.map_nil]); first | done | rfl) ?_; (with_reducible refine (addr_Up.calls t175 t176 t183 t184 true _ A41.out).mono ?_); rintro e w169 ⟨rfl, hb⟩; refine ⟨_, rfl, ?_⟩; have n0_ := Aside0.mk (blk_below (g := gb173) (o := .cells #[.int .u32 t169, .int .i64 t170] 24 (0, 0)) (by (with_reducible repeat first | apply bN | apply bD | apply bA); exact BK173.out) hb); have n1_ := Aside0.mk (blk_below (g := gb174) (o := .cells #[.int .u32 t171, .int .i64 t172] 24 (0, 0)) (by (with_reducible repeat first | apply bN | apply bD | apply bA); exact BK174.out) hb); have n2_ := Aside0.mk (blk_below (g := gb178) (o := .cells #[.int .u32 t175, .int .i64 t176] 24 (0, 0)) (by (with_reducible repeat first | apply bN | apply bD | apply bA); exact BK178.out) hb); have n3_ := Aside0.mk (blk_below (g := gb182) (o := .cells #[.int .u32 t179, .int .i64 t180] 24 (0, 0)) (by (with_reducible repeat first | apply bN | apply bD | apply bA); exact BK182.out) hb); have n4_ := Aside0.mk (below_step (by repeat (first | (with_reducible first | exact HB.out | apply lA | apply lN | apply lD | apply lS GE173.out | apply lS GE174.out | apply lS GE178.out | apply lS GE182.out) | exact HB.out)) hb); clear BK173; clear BK174; clear BK178; clear BK182; clear HB; have BK173 := n0_; have BK174 := n1_; have BK178 := n2_; have BK182 := n3_; have HB := n4_; clear n0_ n1_ n2_ n3_ n4_; (try clear hb)) | ((with_reducible refine gate_dst (N := 15) rfl ?_); refine box_event ?hg (N := 15) ?hd (cs := #[.int .u32 0, .int .i64 0]) (t := 24) ?hr ?_; (case hd => rfl); (case hg => rfl); (case hr => first | (go_simp; done) | (go_simp; rfl)); intro gb186 hg w170 hbox hb; have n0_ := Aside0.mk (blk_below (g := gb173) (o := .cells #[.int .u32 t169, .int .i64 t170] 24 (0, 0)) (by (with_reducible repeat first | apply bN | apply bD | apply bA); exact BK173.out) hb); have n1_ := Aside0.mk (blk_below (g := gb174) (o := .cells #[.int .u32 t171, .int .i64 t172] 24 (0, 0)) (by (with_reducible repeat first | apply bN | apply bD | apply bA); exact BK174.out) hb); have n2_ := Aside0.mk (blk_below (g := gb178) (o := .cells #[.int .u32 t175, .int .i64 t176] 24 (0, 0)) (by (with_reducible repeat first | apply bN | apply bD | apply bA); exact BK178.out) hb); have n3_ := Aside0.mk (blk_below (g := gb182) (o := .cells #[.int .u32 t179, .int .i64 t180] 24 (0, 0)) (by (with_reducible repeat first | apply bN | apply bD | apply bA); exact BK182.out) hb); have n4_ := Aside0.mk (below_step (by repeat (first | (with_reducible first | exact HB.out | apply lA | apply lN | apply lD | apply lS GE173.out | apply lS GE174.out | apply lS GE178.out | apply lS GE182.out) | exact HB.out)) hb); have n5_ := Aside0.mk (hbox); have n6_ := Aside0.mk ((by rw [hg]; exact (below_size (by repeat (first | (with_reducible first | exact HB.out | apply lA | apply lN | apply lD | apply lS GE173.out | apply lS GE174.out | apply lS GE178.out | apply lS GE182.out) | exact HB.out))) : w.heap.size ≤ gb186)); have n7_ := Aside0.mk ((by rw [hg]; exact (below_size (by repeat (first | (with_reducible first | exact HB.out | apply lA | apply lN | apply lD | apply lS GE173.out | apply lS GE174.out | apply lS GE178.out | apply lS GE182.out) | exact HB.out))) : w.heap.size ≤ gb186)); have n8_ := Aside0.mk ((by rw [hg]; exact Nat.ne_of_lt (blk_lt (g := gb173) (o := .cells #[.int .u32 t169, .int .i64 t170] 24 (0, 0)) (by (with_reducible repeat first | apply bN | apply bD | apply bA); exact BK173.out)) : gb173 ≠ gb186)); have n9_ := Aside0.mk ((by rw [hg]; exact Nat.ne_of_gt (blk_lt (g := gb173) (o := .cells #[.int .u32 t169, .int .i64 t170] 24 (0, 0)) (by (with_reducible repeat first | apply bN | apply bD | apply bA); exact BK173.out)) : gb186 ≠ gb173)); have n10_ := Aside0.mk ((by rw [hg]; exact Nat.ne_of_lt (blk_lt (g := gb174) (o := .cells #[.int .u32 t171, .int .i64 t172] 24 (0, 0)) (by (with_reducible repeat first | apply bN | apply bD | apply bA); exact BK174.out)) : gb174 ≠ gb186)); have n11_ := Aside0.mk ((by rw [hg]; exact Nat.ne_of_gt (blk_lt (g := gb174) (o := .cells #[.int .u32 t171, .int .i64 t172] 24 (0, 0)) (by (with_reducible repeat first | apply bN | apply bD | apply bA); exact BK174.out)) : gb186 ≠ gb174)); have n12_ := Aside0.mk ((by rw [hg]; exact Nat.ne_of_lt (blk_lt (g := gb178) (o := .cells #[.int .u32 t175, .int .i64 t176] 24 (0, 0)) (by (with_reducible repeat first | apply bN | apply bD | apply bA); exact BK178.out)) : gb178 ≠ gb186)); have n13_ := Aside0.mk ((by rw [hg]; exact Nat.ne_of_gt (blk_lt (g := gb178) (o := .cells #[.int .u32 t175, .int .i64 t176] 24 (0, 0)) (by (with_reducible repeat first | apply bN | apply bD | apply bA); exact BK178.out)) : gb186 ≠ gb178)); have n14_ := Aside0.mk ((by rw [hg]; exact Nat.ne_of_lt (blk_lt (g := gb182) (o := .cells #[.int .u32 t179, .int .i64 t180] 24 (0, 0)) (by (with_reducible repeat first | apply bN | apply bD | apply bA); exact BK182.out)) : gb182 ≠ gb186)); have n15_ := Aside0.mk ((by rw [hg]; exact Nat.ne_of_gt (blk_lt (g := gb182) (o := .cells #[.int .u32 t179, .int .i64 t180] 24 (0, 0)) (by (with_reducible repeat first | apply bN | apply bD | apply bA); exact BK182.out)) : gb186 ≠ gb182)); clear BK173; clear BK174; clear BK178; clear BK182; clear HB; have BK173 := n0_; have BK174 := n1_; have BK178 := n2_; have BK182 := n3_; have HB := n4_; have BK186 := n5_; have GW186 := n6_; have GE186 := n7_; have NB173_186 := n8_; have NB186_173 := n9_; have NB174_186 := n10_; have NB186_174 := n11_; have NB178_186 := n12_; have NB186_178 := n13_; have NB182_186 := n14_; have NB186_182 := n15_; clear n0_ n1_ n2_ n3_ n4_ n5_ n6_ n7_ n8_ n9_ n10_ n11_ n12_ n13_ n14_ n15_; clear hb hbox hg; have hnb171 := NB186_173.out; have hnc171 := NB173_186.out; have hnb172 := NB186_174.out; have hnc172 := NB174_186.out; have hnb173 := NB186_178.out; have hnc173 := NB178_186.out; have hnb174 := NB186_182.out; have hnc174 := NB182_186.out; have hcz175_0 : w170.cell? ⟨gb186, 0, none⟩ = some (.int .u32 0) := (blk_cell BK186.out 0).trans rfl; have hcz175_1 : w170.cell? ⟨gb186, 1, none⟩ = some (.int .i64 0) := (blk_cell BK186.out 1).trans rfl; have hfz175_0 := blk_frozen BK186.out 0; have hfz175_1 := blk_frozen BK186.out 1; have hnb176 := NB182_173.out; have hnc176 := NB173_182.out; have hnb177 := NB182_174.out; have hnc177 := NB174_182.out; have hcz178_0 : w170.cell? ⟨gb182, 0, none⟩ = some (.int .u32 t179) := (blk_cell BK182.out 0).trans rfl; have hcz178_1 : w170.cell? ⟨gb182, 1, none⟩ = some (.int .i64 t180) := (blk_cell BK182.out 1).trans rfl; have hfz178_0 := blk_frozen BK182.out 0; have hfz178_1 := blk_frozen BK182.out 1) | ((with_reducible refine gate_callee (f := 21) rfl ?_); refine goesL_ (some 57) rfl rfl Tryd.func21 (by kernel_rfl) rfl #[.agg #[.int .u32 t179, .int .i64 t180]] rfl (by (try simp only [List.map_toArray, List.map_cons, List.map_nil]); first | done | rfl) ?_; (with_reducible refine (addr_Up.calls t179 t180 t187 t188 true _ A42.out).mono ?_); rintro e w179 ⟨rfl, hb⟩; refine ⟨_, rfl, ?_⟩; have n0_ := Aside0.mk (blk_below (g := gb173) (o := .cells #[.int .u32 t169, .int .i64 t170] 24 (0, 0)) (by (with_reducible repeat first | apply bN | apply bD | apply bA); refine blk_far ?_ NB173_186.out _; (with_reducible repeat first | apply bN | apply bD | apply bA); refine blk_far ?_ NB173_186.out _; (with_reducible repeat first | apply bN | apply bD | apply bA); exact BK173.out) hb); have n1_ := Aside0.mk (blk_below (g := gb174) (o := .cells #[.int .u32 t171, .int .i64 t172] 24 (0, 0)) (by (with_reducible repeat first | apply bN | apply bD | apply bA); refine blk_far ?_ NB174_186.out _; (with_reducible repeat first | apply bN | apply bD | apply bA); refine blk_far ?_ NB174_186.out _; (with_reducible repeat first | apply bN | apply bD | apply bA); exact BK174.out) hb); have n2_ := Aside0.mk (blk_below (g := gb178) (o := .cells #[.int .u32 t175, .int .i64 t176] 24 (0, 0)) (by (with_reducible repeat first | apply bN | apply bD | apply bA); refine blk_far ?_ NB178_186.out _; (with_reducible repeat first | apply bN | apply bD | apply bA); refine blk_far ?_ NB178_186.out _; (with_reducible repeat first | apply bN | apply bD | apply bA); exact BK178.out) hb); have n3_ := Aside0.mk (blk_below (g := gb182) (o := .cells #[.int .u32 t179, .int .i64 t180] 24 (0, 0)) (by (with_reducible repeat first | apply bN | apply bD | apply bA); refine blk_far ?_ NB182_186.out _; (with_reducible repeat first | apply bN | apply bD | apply bA); refine blk_far ?_ NB182_186.out _; (with_reducible repeat first | apply bN | apply bD | apply bA); exact BK182.out) hb); have n4_ := Aside0.mk (blk_below (g := gb186) (o := .cells #[.int .u32 t183, .int .i64 t184] 24 (0, 0)) (by (with_reducible repeat first | apply bN | apply bD | apply bA); refine blk_put (cs := #[.int .u32 t183, .int .i64 0]) ?_ 1 _ rfl; (with_reducible repeat first | apply bN | apply bD | apply bA); refine blk_put (cs := #[.int .u32 0, .int .i64 0]) ?_ 0 _ rfl; (with_reducible repeat first | apply bN | apply bD | apply bA); exact BK186.out) hb); have n5_ := Aside0.mk (below_step (by repeat (first | (with_reducible first | exact HB.out | apply lA | apply lN | apply lD | apply lS GE173.out | apply lS GE174.out | apply lS GE178.out | apply lS GE182.out | apply lS GE186.out) | exact HB.out)) hb); clear BK173; clear BK174; clear BK178; clear BK182; clear BK186; clear HB; have BK173 := n0_; have BK174 := n1_; have BK178 := n2_; have BK182 := n3_; have BK186 := n4_; have HB := n5_; clear n0_ n1_ n2_ n3_ n4_ n5_; (try clear hb)) | ((with_reducible refine gate_dst (N := 17) rfl ?_); refine box_event ?hg (N := 17) ?hd (cs := #[.int .u32 0, .int .i64 0]) (t := 24) ?hr ?_; (case hd => rfl); (case hg => rfl); (case hr => first | (go_simp; done) | (go_simp; rfl)); intro gb190 hg w180 hbox hb; have n0_ := Aside0.mk (blk_below (g := gb173) (o := .cells #[.int .u32 t169, .int .i64 t170] 24 (0, 0)) (by (with_reducible repeat first | apply bN | apply bD | apply bA); exact BK173.out) hb); have n1_ := Aside0.mk (blk_below (g := gb174) (o := .cells #[.int .u32 t171, .int .i64 t172] 24 (0, 0)) (by (with_reducible repeat first | apply bN | apply bD | apply bA); exact BK174.out) hb); have n2_ := Aside0.mk (blk_below (g := gb178) (o := .cells #[.int .u32 t175, .int .i64 t176] 24 (0, 0)) (by (with_reducible repeat first | apply bN | apply bD | apply bA); exact BK178.out) hb); have n3_ := Aside0.mk (blk_below (g := gb182) (o := .cells #[.int .u32 t179, .int .i64 t180] 24 (0, 0)) (by (with_reducible repeat first | apply bN | apply bD | apply bA); exact BK182.out) hb); have n4_ := Aside0.mk (blk_below (g := gb186) (o := .cells #[.int .u32 t183, .int .i64 t184] 24 (0, 0)) (by (with_reducible repeat first | apply bN | apply bD | apply bA); exact BK186.out) hb); have n5_ := Aside0.mk (below_step (by repeat (first | (with_reducible first | exact HB.out | apply lA | apply lN | apply lD | apply lS GE173.out | apply lS GE174.out | apply lS GE178.out | apply lS GE182.out | apply lS GE186.out) | exact HB.out)) hb); have n6_ := Aside0.mk (hbox); have n7_ := Aside0.mk ((by rw [hg]; exact (below_size (by repeat (first | (with_reducible first | exact HB.out | apply lA | apply lN | apply lD | apply lS GE173.out | apply lS GE174.out | apply lS GE178.out | apply lS GE182.out | apply lS GE186.out) | exact HB.out))) : w.heap.size ≤ gb190)); have n8_ := Aside0.mk ((by rw [hg]; exact (below_size (by repeat (first | (with_reducible first | exact HB.out | apply lA | apply lN | apply lD | apply lS GE173.out | apply lS GE174.out | apply lS GE178.out | apply lS GE182.out | apply lS GE186.out) | exact HB.out))) : w.heap.size ≤ gb190)); have n9_ := Aside0.mk ((by rw [hg]; exact Nat.ne_of_lt (blk_lt (g := gb173) (o := .cells #[.int .u32 t169, .int .i64 t170] 24 (0, 0)) (by (with_reducible repeat first | apply bN | apply bD | apply bA); exact BK173.out)) : gb173 ≠ gb190)); have n10_ := Aside0.mk ((by rw [hg]; exact Nat.ne_of_gt (blk_lt (g := gb173) (o := .cells #[.int .u32 t169, .int .i64 t170] 24 (0, 0)) (by (with_reducible repeat first | apply bN | apply bD | apply bA); exact BK173.out)) : gb190 ≠ gb173)); have n11_ := Aside0.mk ((by rw [hg]; exact Nat.ne_of_lt (blk_lt (g := gb174) (o := .cells #[.int .u32 t171, .int .i64 t172] 24 (0, 0)) (by (with_reducible repeat first | apply bN | apply bD | apply bA); exact BK174.out)) : gb174 ≠ gb190)); have n12_ := Aside0.mk ((by rw [hg]; exact Nat.ne_of_gt (blk_lt (g := gb174) (o := .cells #[.int .u32 t171, .int .i64 t172] 24 (0, 0)) (by (with_reducible repeat first | apply bN | apply bD | apply bA); exact BK174.out)) : gb190 ≠ gb174)); have n13_ := Aside0.mk ((by rw [hg]; exact Nat.ne_of_lt (blk_lt (g := gb178) (o := .cells #[.int .u32 t175, .int .i64 t176] 24 (0, 0)) (by (with_reducible repeat first | apply bN | apply bD | apply bA); exact BK178.out)) : gb178 ≠ gb190)); have n14_ := Aside0.mk ((by rw [hg]; exact Nat.ne_of_gt (blk_lt (g := gb178) (o := .cells #[.int .u32 t175, .int .i64 t176] 24 (0, 0)) (by (with_reducible repeat first | apply bN | apply bD | apply bA); exact BK178.out)) : gb190 ≠ gb178)); have n15_ := Aside0.mk ((by rw [hg]; exact Nat.ne_of_lt (blk_lt (g := gb182) (o := .cells #[.int .u32 t179, .int .i64 t180] 24 (0, 0)) (by (with_reducible repeat first | apply bN | apply bD | apply bA); exact BK182.out)) : gb182 ≠ gb190)); have n16_ := Aside0.mk ((by rw [hg]; exact Nat.ne_of_gt (blk_lt (g := gb182) (o := .cells #[.int .u32 t179, .int .i64 t180] 24 (0, 0)) (by (with_reducible repeat first | apply bN | apply bD | apply bA); exact BK182.out)) : gb190 ≠ gb182)); have n17_ := Aside0.mk ((by rw [hg]; exact Nat.ne_of_lt (blk_lt (g := gb186) (o := .cells #[.int .u32 t183, .int .i64 t184] 24 (0, 0)) (by (with_reducible repeat first | apply bN | apply bD | apply bA); exact BK186.out)) : gb186 ≠ gb190)); have n18_ := Aside0.mk ((by rw [hg]; exact Nat.ne_of_gt (blk_lt (g := gb186) (o := .cells #[.int .u32 t183, .int .i64 t184] 24 (0, 0)) (by (with_reducible repeat first | apply bN | apply bD | apply bA); exact BK186.out)) : gb190 ≠ gb186)); clear BK173; clear BK174; clear BK178; clear BK182; clear BK186; clear HB; have BK173 := n0_; have BK174 := n1_; have BK178 := n2_; have BK182 := n3_; have BK186 := n4_; have HB := n5_; have BK190 := n6_; have GW190 := n7_; have GE190 := n8_; have NB173_190 := n9_; have NB190_173 := n10_; have NB174_190 := n11_; have NB190_174 := n12_; have NB178_190 := n13_; have NB190_178 := n14_; have NB182_190 := n15_; have NB190_182 := n16_; have NB186_190 := n17_; have NB190_186 := n18_; clear n0_ n1_ n2_ n3_ n4_ n5_ n6_ n7_ n8_ n9_ n10_ n11_ n12_ n13_ n14_ n15_ n16_ n17_ n18_; clear hb hbox hg; have hnb181 := NB190_173.out; have hnc181 := NB173_190.out; have hnb182 := NB190_174.out; have hnc182 := NB174_190.out; have hnb183 := NB190_178.out; have hnc183 := NB178_190.out; have hnb184 := NB190_182.out; have hnc184 := NB182_190.out; have hnb185 := NB190_186.out; have hnc185 := NB186_190.out; have hcz186_0 : w180.cell? ⟨gb190, 0, none⟩ = some (.int .u32 0) := (blk_cell BK190.out 0).trans rfl; have hcz186_1 : w180.cell? ⟨gb190, 1, none⟩ = some (.int .i64 0) := (blk_cell BK190.out 1).trans rfl; have hfz186_0 := blk_frozen BK190.out 0; have hfz186_1 := blk_frozen BK190.out 1))
                have n0_ : Aside0 (((w180.setCell ⟨gb190, 0, none⟩ (.int .u32 t187)).setCell ⟨gb190, 1, none⟩ (.int .i64 t188)).heap[gb173]? = some (.cells #[.int .u32 t169, .int .i64 t170] 24 (0, 0))) := ⟨by (with_reducible repeat first | apply bN | apply bD | apply bA); refine blk_far ?_ NB173_190.out _; (with_reducible repeat first | apply bN | apply bD | apply bA); refine blk_far ?_ NB173_190.out _; (with_reducible repeat first | apply bN | apply bD | apply bA); exact BK173.out⟩
                have n1_ : Aside0 (((w180.setCell ⟨gb190, 0, none⟩ (.int .u32 t187)).setCell ⟨gb190, 1, none⟩ (.int .i64 t188)).heap[gb174]? = some (.cells #[.int .u32 t171, .int .i64 t172] 24 (0, 0))) := ⟨by (with_reducible repeat first | apply bN | apply bD | apply bA); refine blk_far ?_ NB174_190.out _; (with_reducible repeat first | apply bN | apply bD | apply bA); refine blk_far ?_ NB174_190.out _; (with_reducible repeat first | apply bN | apply bD | apply bA); exact BK174.out⟩
                have n2_ : Aside0 (((w180.setCell ⟨gb190, 0, none⟩ (.int .u32 t187)).setCell ⟨gb190, 1, none⟩ (.int .i64 t188)).heap[gb178]? = some (.cells #[.int .u32 t175, .int .i64 t176] 24 (0, 0))) := ⟨by (with_reducible repeat first | apply bN | apply bD | apply bA); refine blk_far ?_ NB178_190.out _; (with_reducible repeat first | apply bN | apply bD | apply bA); refine blk_far ?_ NB178_190.out _; (with_reducible repeat first | apply bN | apply bD | apply bA); exact BK178.out⟩
                have n3_ : Aside0 (((w180.setCell ⟨gb190, 0, none⟩ (.int .u32 t187)).setCell ⟨gb190, 1, none⟩ (.int .i64 t188)).heap[gb182]? = some (.cells #[.int .u32 t179, .int .i64 t180] 24 (0, 0))) := ⟨by (with_reducible repeat first | apply bN | apply bD | apply bA); refine blk_far ?_ NB182_190.out _; (with_reducible repeat first | apply bN | apply bD | apply bA); refine blk_far ?_ NB182_190.out _; (with_reducible repeat first | apply bN | apply bD | apply bA); exact BK182.out⟩
                have n4_ : Aside0 (((w180.setCell ⟨gb190, 0, none⟩ (.int .u32 t187)).setCell ⟨gb190, 1, none⟩ (.int .i64 t188)).heap[gb186]? = some (.cells #[.int .u32 t183, .int .i64 t184] 24 (0, 0))) := ⟨by (with_reducible repeat first | apply bN | apply bD | apply bA); refine blk_far ?_ NB186_190.out _; (with_reducible repeat first | apply bN | apply bD | apply bA); refine blk_far ?_ NB186_190.out _; (with_reducible repeat first | apply bN | apply bD | apply bA); exact BK186.out⟩
                have n5_ : Aside0 (((w180.setCell ⟨gb190, 0, none⟩ (.int .u32 t187)).setCell ⟨gb190, 1, none⟩ (.int .i64 t188)).heap[gb190]? = some (.cells #[.int .u32 t187, .int .i64 t188] 24 (0, 0))) := ⟨by (with_reducible repeat first | apply bN | apply bD | apply bA); refine blk_put (cs := #[.int .u32 t187, .int .i64 0]) ?_ 1 _ rfl; (with_reducible repeat first | apply bN | apply bD | apply bA); refine blk_put (cs := #[.int .u32 0, .int .i64 0]) ?_ 0 _ rfl; (with_reducible repeat first | apply bN | apply bD | apply bA); exact BK190.out⟩
                have n6_ : Aside0 (Below w.heap.size w ((w180.setCell ⟨gb190, 0, none⟩ (.int .u32 t187)).setCell ⟨gb190, 1, none⟩ (.int .i64 t188))) := ⟨by repeat (first | (with_reducible first | exact HB.out | apply lA | apply lN | apply lD | apply lS GE173.out | apply lS GE174.out | apply lS GE178.out | apply lS GE182.out | apply lS GE186.out | apply lS GE190.out) | exact HB.out)⟩
                (try clear BK173)
                (try clear BK174)
                (try clear BK178)
                (try clear BK182)
                (try clear BK186)
                (try clear BK190)
                (try clear HB)
                generalize ((w180.setCell ⟨gb190, 0, none⟩ (.int .u32 t187)).setCell ⟨gb190, 1, none⟩ (.int .i64 t188)) = w187 at n0_ n1_ n2_ n3_ n4_ n5_ n6_ ⊢
                have BK173 := n0_
                have BK174 := n1_
                have BK178 := n2_
                have BK182 := n3_
                have BK186 := n4_
                have BK190 := n5_
                have HB := n6_
                clear n0_ n1_ n2_ n3_ n4_ n5_ n6_
                have n0_ := Aside0.mk (blk_drew BK173.out)
                have n1_ := Aside0.mk (blk_drew BK174.out)
                have n2_ := Aside0.mk (blk_drew BK178.out)
                have n3_ := Aside0.mk (blk_drew BK182.out)
                have n4_ := Aside0.mk (blk_drew BK186.out)
                have n5_ := Aside0.mk (blk_drew BK190.out)
                have n6_ := Aside0.mk (below_drew1 HB.out)
                clear BK173
                clear BK174
                clear BK178
                clear BK182
                clear BK186
                clear BK190
                clear HB
                have BK173 := n0_
                have BK174 := n1_
                have BK178 := n2_
                have BK182 := n3_
                have BK186 := n4_
                have BK190 := n5_
                have HB := n6_
                clear n0_ n1_ n2_ n3_ n4_ n5_ n6_
                refine start_ (n := 52) (S := fun w' => w'.cell? ⟨gb186, 0, none⟩ = some (.int .u32 t183) ∧ w'.cell? ⟨gb186, 1, none⟩ = some (.int .i64 t184) ∧ w'.cell? ⟨gb173, 0, none⟩ = some (.int .u32 t169) ∧ w'.cell? ⟨gb173, 1, none⟩ = some (.int .i64 t170) ∧ w'.cell? ⟨gb190, 0, none⟩ = some (.int .u32 t187) ∧ w'.cell? ⟨gb190, 1, none⟩ = some (.int .i64 t188) ∧ w'.cell? ⟨gb178, 0, none⟩ = some (.int .u32 t175) ∧ w'.cell? ⟨gb178, 1, none⟩ = some (.int .i64 t176) ∧ w'.cell? ⟨gb182, 0, none⟩ = some (.int .u32 t179) ∧ w'.cell? ⟨gb182, 1, none⟩ = some (.int .i64 t180)) (ds := []) v0 (by kernel_rfl) rfl rfl ⟨(blk_cell BK186.out 0).trans rfl, (blk_cell BK186.out 1).trans rfl, (blk_cell BK173.out 0).trans rfl, (blk_cell BK173.out 1).trans rfl, (blk_cell BK190.out 0).trans rfl, (blk_cell BK190.out 1).trans rfl, (blk_cell BK178.out 0).trans rfl, (blk_cell BK178.out 1).trans rfl, (blk_cell BK182.out 0).trans rfl, (blk_cell BK182.out 1).trans rfl⟩ (fun hHeld => ?_); refine with_tabW signpostlaw1_AddrRules.tab9 signpostlaw1_AddrRules.bits9 (fun HT_ HW_ => ?_)
                generalize w187.drew = w188 at BK173 BK174 BK178 BK182 BK186 BK190 HB hHeld ⊢
                refine pure_ (i := 0) (N := some 60) (v := ?_) (a' := ?_) v1 rfl rfl (any_of HT_.out (by kernel_rfl)) (fun _ _ _ h => h) (Or.inl ⟨by rfl, ?_⟩) ?_ ?_
                rotate_left
                ·intro w'
                 go_simp
                 with_reducible rfl
                rotate_left
                ·simp only [Act.put, List.setIfInBounds_toArray, List.set_cons_zero, List.set_cons_succ, i64_w, i32_w]
                 rfl
                refine pure_ (i := 1) (N := some 61) (v := ?_) (a' := ?_) v2 rfl rfl (any_of HT_.out (by kernel_rfl)) (fun _ _ _ h => h) (Or.inl ⟨by rfl, ?_⟩) ?_ ?_
                rotate_left
                ·intro w'
                 go_simp
                 with_reducible rfl
                rotate_left
                ·simp only [Act.put, List.setIfInBounds_toArray, List.set_cons_zero, List.set_cons_succ, i64_w, i32_w]
                 rfl
                refine pure_ (i := 2) (N := some 62) (v := ?_) (a' := ?_) v3 rfl rfl (any_of HT_.out (by kernel_rfl)) (fun _ _ _ h => h) (Or.inl ⟨by rfl, ?_⟩) ?_ ?_
                rotate_left
                ·intro w'
                 go_simp
                 with_reducible rfl
                rotate_left
                ·simp only [Act.put, List.setIfInBounds_toArray, List.set_cons_zero, List.set_cons_succ, i64_w, i32_w]
                 rfl
                refine pure_ (i := 3) (N := some 63) (v := ?_) (a' := ?_) v4 rfl rfl (any_of HT_.out (by kernel_rfl)) (fun _ _ _ h => h) (Or.inl ⟨by rfl, ?_⟩) ?_ ?_
                rotate_left
                ·intro w'
                 go_simp
                 with_reducible rfl
                rotate_left
                ·simp only [Act.put, List.setIfInBounds_toArray, List.set_cons_zero, List.set_cons_succ, i64_w, i32_w]
                 rfl
                refine pure_ (i := 4) (N := some 64) (v := ?_) (a' := ?_) v5 rfl rfl (any_of HT_.out (by kernel_rfl)) (fun _ _ _ h => h) (Or.inl ⟨by rfl, ?_⟩) ?_ ?_
                rotate_left
                ·intro w'
                 go_simp
                 with_reducible rfl
                rotate_left
                ·simp only [Act.put, List.setIfInBounds_toArray, List.set_cons_zero, List.set_cons_succ, i64_w, i32_w]
                 rfl
                refine pure_ (i := 5) (N := some 65) (v := ?_) (a' := ?_) v6 rfl rfl (any_of HT_.out (by kernel_rfl)) (fun _ _ _ h => h) (Or.inl ⟨by rfl, ?_⟩) ?_ ?_
                rotate_left
                ·intro w'
                 go_simp
                 with_reducible rfl
                rotate_left
                ·simp only [Act.put, List.setIfInBounds_toArray, List.set_cons_zero, List.set_cons_succ, i64_w, i32_w]
                 rfl
                refine pure_ (i := 6) (N := some 66) (v := ?_) (a' := ?_) v7 rfl rfl (any_of HT_.out (by kernel_rfl)) (fun _ _ _ h => h) (Or.inl ⟨by rfl, ?_⟩) ?_ ?_
                rotate_left
                ·intro w'
                 go_simp
                 with_reducible rfl
                rotate_left
                ·simp only [Act.put, List.setIfInBounds_toArray, List.set_cons_zero, List.set_cons_succ, i64_w, i32_w]
                 rfl
                refine take_ (i := 7) (N := some 67) (v := ?_) (a' := ?_) v8 rfl rfl (take_ofW HT_.out HW_.out (by kernel_rfl)) (fun _ _ _ h => h) (Or.inl ⟨by rfl, ?_⟩) hHeld ?_ ?_
                rotate_left
                ·rintro w' ⟨s0, s1, s2, s3, s4, s5, s6, s7, s8, s9⟩
                 go_simp
                 with_reducible rfl
                rotate_left
                ·simp only [Act.put, List.setIfInBounds_toArray, List.set_cons_zero, List.set_cons_succ, i64_w, i32_w]
                 rfl
                refine take_ (i := 8) (N := some 68) (v := ?_) (a' := ?_) v9 rfl rfl (take_ofW HT_.out HW_.out (by kernel_rfl)) (fun _ _ _ h => h) (Or.inl ⟨by rfl, ?_⟩) hHeld ?_ ?_
                rotate_left
                ·rintro w' ⟨s0, s1, s2, s3, s4, s5, s6, s7, s8, s9⟩
                 go_simp
                 with_reducible rfl
                rotate_left
                ·simp only [Act.put, List.setIfInBounds_toArray, List.set_cons_zero, List.set_cons_succ, i64_w, i32_w]
                 rfl
                refine pure_ (i := 9) (N := some 69) (v := ?_) (a' := ?_) v10 rfl rfl (any_of HT_.out (by kernel_rfl)) (fun _ _ _ h => h) (Or.inl ⟨by rfl, ?_⟩) ?_ ?_
                rotate_left
                ·intro w'
                 go_simp
                 with_reducible rfl
                rotate_left
                ·simp only [Act.put, List.setIfInBounds_toArray, List.set_cons_zero, List.set_cons_succ, i64_w, i32_w]
                 rfl
                refine pure_ (i := 10) (N := some 70) (v := ?_) (a' := ?_) v11 rfl rfl (any_of HT_.out (by kernel_rfl)) (fun _ _ _ h => h) (Or.inl ⟨by rfl, ?_⟩) ?_ ?_
                rotate_left
                ·intro w'
                 go_simp
                 with_reducible rfl
                rotate_left
                ·simp only [Act.put, List.setIfInBounds_toArray, List.set_cons_zero, List.set_cons_succ, i64_w, i32_w]
                 rfl
                refine pure_ (i := 11) (N := some 71) (v := ?_) (a' := ?_) v12 rfl rfl (any_of HT_.out (by kernel_rfl)) (fun _ _ _ h => h) (Or.inl ⟨by rfl, ?_⟩) ?_ ?_
                rotate_left
                ·intro w'
                 go_simp
                 with_reducible rfl
                rotate_left
                ·simp only [Act.put, List.setIfInBounds_toArray, List.set_cons_zero, List.set_cons_succ, i64_w, i32_w]
                 rfl
                refine take_ (i := 12) (N := some 72) (v := ?_) (a' := ?_) v13 rfl rfl (take_ofW HT_.out HW_.out (by kernel_rfl)) (fun _ _ _ h => h) (Or.inl ⟨by rfl, ?_⟩) hHeld ?_ ?_
                rotate_left
                ·rintro w' ⟨s0, s1, s2, s3, s4, s5, s6, s7, s8, s9⟩
                 go_simp
                 with_reducible rfl
                rotate_left
                ·simp only [Act.put, List.setIfInBounds_toArray, List.set_cons_zero, List.set_cons_succ, i64_w, i32_w]
                 rfl
                refine take_ (i := 13) (N := some 73) (v := ?_) (a' := ?_) v14 rfl rfl (take_ofW HT_.out HW_.out (by kernel_rfl)) (fun _ _ _ h => h) (Or.inl ⟨by rfl, ?_⟩) hHeld ?_ ?_
                rotate_left
                ·rintro w' ⟨s0, s1, s2, s3, s4, s5, s6, s7, s8, s9⟩
                 go_simp
                 with_reducible rfl
                rotate_left
                ·simp only [Act.put, List.setIfInBounds_toArray, List.set_cons_zero, List.set_cons_succ, i64_w, i32_w]
                 rfl
                refine pure_ (i := 14) (N := some 74) (v := ?_) (a' := ?_) v15 rfl rfl (any_of HT_.out (by kernel_rfl)) (fun _ _ _ h => h) (Or.inl ⟨by rfl, ?_⟩) ?_ ?_
                rotate_left
                ·intro w'
                 go_simp
                 with_reducible rfl
                rotate_left
                ·simp only [Act.put, List.setIfInBounds_toArray, List.set_cons_zero, List.set_cons_succ, i64_w, i32_w]
                 rfl
                refine pure_ (i := 15) (N := some 75) (v := ?_) (a' := ?_) v16 rfl rfl (any_of HT_.out (by kernel_rfl)) (fun _ _ _ h => h) (Or.inl ⟨by rfl, ?_⟩) ?_ ?_
                rotate_left
                ·intro w'
                 go_simp
                 with_reducible rfl
                rotate_left
                ·simp only [Act.put, List.setIfInBounds_toArray, List.set_cons_zero, List.set_cons_succ, i64_w, i32_w]
                 rfl
                refine pure_ (i := 16) (N := some 76) (v := ?_) (a' := ?_) v17 rfl rfl (any_of HT_.out (by kernel_rfl)) (fun _ _ _ h => h) (Or.inl ⟨by rfl, ?_⟩) ?_ ?_
                rotate_left
                ·intro w'
                 go_simp
                 with_reducible rfl
                rotate_left
                ·simp only [Act.put, List.setIfInBounds_toArray, List.set_cons_zero, List.set_cons_succ, i64_w, i32_w]
                 rfl
                refine take_ (i := 17) (N := some 77) (v := ?_) (a' := ?_) v18 rfl rfl (take_ofW HT_.out HW_.out (by kernel_rfl)) (fun _ _ _ h => h) (Or.inl ⟨by rfl, ?_⟩) hHeld ?_ ?_
                rotate_left
                ·rintro w' ⟨s0, s1, s2, s3, s4, s5, s6, s7, s8, s9⟩
                 go_simp
                 with_reducible rfl
                rotate_left
                ·simp only [Act.put, List.setIfInBounds_toArray, List.set_cons_zero, List.set_cons_succ, i64_w, i32_w]
                 rfl
                refine take_ (i := 18) (N := some 78) (v := ?_) (a' := ?_) v19 rfl rfl (take_ofW HT_.out HW_.out (by kernel_rfl)) (fun _ _ _ h => h) (Or.inl ⟨by rfl, ?_⟩) hHeld ?_ ?_
                rotate_left
                ·rintro w' ⟨s0, s1, s2, s3, s4, s5, s6, s7, s8, s9⟩
                 go_simp
                 with_reducible rfl
                rotate_left
                ·simp only [Act.put, List.setIfInBounds_toArray, List.set_cons_zero, List.set_cons_succ, i64_w, i32_w]
                 rfl
                refine one_ (i := 19) (N := some 79) v20 rfl rfl (one_of HT_.out (by kernel_rfl)) (by decide) (fun K hK => ?_)
                refine goes_ Tryd.func18 (by kernel_rfl) rfl #[.agg #[.int .u32 t169, .int .i64 t170], .agg #[.int .u32 t175, .int .i64 t176]] (by rfl) rfl rfl (by (try simp only [List.map_toArray, List.map_cons, List.map_nil]); first | done | rfl) ?_
                with_reducible refine (addr_Less.calls t169 t170 t175 t176 true _ A95.out).mono ?_
                rintro e w189 ⟨rfl, hb⟩
                refine ⟨_, rfl, ?_⟩
                have n0_ := Aside0.mk (blk_below (g := gb173) (o := .cells #[.int .u32 t169, .int .i64 t170] 24 (0, 0)) (by (with_reducible repeat first | apply bN | apply bD | apply bA); exact BK173.out) hb)
                have n1_ := Aside0.mk (blk_below (g := gb174) (o := .cells #[.int .u32 t171, .int .i64 t172] 24 (0, 0)) (by (with_reducible repeat first | apply bN | apply bD | apply bA); exact BK174.out) hb)
                have n2_ := Aside0.mk (blk_below (g := gb178) (o := .cells #[.int .u32 t175, .int .i64 t176] 24 (0, 0)) (by (with_reducible repeat first | apply bN | apply bD | apply bA); exact BK178.out) hb)
                have n3_ := Aside0.mk (blk_below (g := gb182) (o := .cells #[.int .u32 t179, .int .i64 t180] 24 (0, 0)) (by (with_reducible repeat first | apply bN | apply bD | apply bA); exact BK182.out) hb)
                have n4_ := Aside0.mk (blk_below (g := gb186) (o := .cells #[.int .u32 t183, .int .i64 t184] 24 (0, 0)) (by (with_reducible repeat first | apply bN | apply bD | apply bA); exact BK186.out) hb)
                have n5_ := Aside0.mk (blk_below (g := gb190) (o := .cells #[.int .u32 t187, .int .i64 t188] 24 (0, 0)) (by (with_reducible repeat first | apply bN | apply bD | apply bA); exact BK190.out) hb)
                have n6_ := Aside0.mk (below_step (by repeat (first | (with_reducible first | exact HB.out | apply lA | apply lN | apply lD | apply lS GE173.out | apply lS GE174.out | apply lS GE178.out | apply lS GE182.out | apply lS GE186.out | apply lS GE190.out) | exact HB.out)) hb)
                clear BK173
                clear BK174
                clear BK178
                clear BK182
                clear BK186
                clear BK190
                clear HB
                have BK173 := n0_
                have BK174 := n1_
                have BK178 := n2_
                have BK182 := n3_
                have BK186 := n4_
                have BK190 := n5_
                have HB := n6_
                clear n0_ n1_ n2_ n3_ n4_ n5_ n6_
                (try clear hb)
                (try clear hb2)
                (try clear hk)
                (try clear hi)
                refine hK.out _ _ ⟨(blk_cell BK186.out 0).trans rfl, (blk_cell BK186.out 1).trans rfl, (blk_cell BK173.out 0).trans rfl, (blk_cell BK173.out 1).trans rfl, (blk_cell BK190.out 0).trans rfl, (blk_cell BK190.out 1).trans rfl, (blk_cell BK178.out 0).trans rfl, (blk_cell BK178.out 1).trans rfl, (blk_cell BK182.out 0).trans rfl, (blk_cell BK182.out 1).trans rfl⟩ (fun hHeld => ?_)
                clear hK K
                refine norm_ (a' := ?_) ?_ ?_
                rotate_left
                ·show Act.put _ (some 79) _ = _
                 simp only [Act.put, List.setIfInBounds_toArray, List.set_cons_zero, List.set_cons_succ, i64_w, i32_w]
                 rfl
                refine pure_ (i := 20) (N := some 80) (v := ?_) (a' := ?_) v21 rfl rfl (any_of HT_.out (by kernel_rfl)) (fun _ _ _ h => h) (Or.inl ⟨by rfl, ?_⟩) ?_ ?_
                rotate_left
                ·intro w'
                 go_simp
                 with_reducible rfl
                rotate_left
                ·simp only [Act.put, List.setIfInBounds_toArray, List.set_cons_zero, List.set_cons_succ, i64_w, i32_w]
                 rfl
                refine pure_ (i := 21) (N := some 81) (v := ?_) (a' := ?_) v22 rfl rfl (any_of HT_.out (by kernel_rfl)) (fun _ _ _ h => h) (Or.inl ⟨by rfl, ?_⟩) ?_ ?_
                rotate_left
                ·intro w'
                 go_simp
                 with_reducible rfl
                rotate_left
                ·simp only [Act.put, List.setIfInBounds_toArray, List.set_cons_zero, List.set_cons_succ, i64_w, i32_w]
                 rfl
                refine pure_ (i := 22) (N := some 82) (v := ?_) (a' := ?_) v23 rfl rfl (any_of HT_.out (by kernel_rfl)) (fun _ _ _ h => h) (Or.inl ⟨by rfl, ?_⟩) ?_ ?_
                rotate_left
                ·intro w'
                 go_simp
                 with_reducible rfl
                rotate_left
                ·simp only [Act.put, List.setIfInBounds_toArray, List.set_cons_zero, List.set_cons_succ, i64_w, i32_w]
                 rfl
                refine take_ (i := 23) (N := some 83) (v := ?_) (a' := ?_) v24 rfl rfl (take_ofW HT_.out HW_.out (by kernel_rfl)) (fun _ _ _ h => h) (Or.inl ⟨by rfl, ?_⟩) hHeld ?_ ?_
                rotate_left
                ·rintro w' ⟨s0, s1, s2, s3, s4, s5, s6, s7, s8, s9⟩
                 go_simp
                 with_reducible rfl
                rotate_left
                ·simp only [Act.put, List.setIfInBounds_toArray, List.set_cons_zero, List.set_cons_succ, i64_w, i32_w]
                 rfl
                refine take_ (i := 24) (N := some 84) (v := ?_) (a' := ?_) v25 rfl rfl (take_ofW HT_.out HW_.out (by kernel_rfl)) (fun _ _ _ h => h) (Or.inl ⟨by rfl, ?_⟩) hHeld ?_ ?_
                rotate_left
                ·rintro w' ⟨s0, s1, s2, s3, s4, s5, s6, s7, s8, s9⟩
                 go_simp
                 with_reducible rfl
                rotate_left
                ·simp only [Act.put, List.setIfInBounds_toArray, List.set_cons_zero, List.set_cons_succ, i64_w, i32_w]
                 rfl
                refine one_ (i := 25) (N := some 85) v26 rfl rfl (one_of HT_.out (by kernel_rfl)) (by decide) (fun K hK => ?_)
                refine goes_ Tryd.func18 (by kernel_rfl) rfl #[.agg #[.int .u32 t175, .int .i64 t176], .agg #[.int .u32 t179, .int .i64 t180]] (by rfl) rfl rfl (by (try simp only [List.map_toArray, List.map_cons, List.map_nil]); first | done | rfl) ?_
                with_reducible refine (addr_Less.calls t175 t176 t179 t180 true _ A97.out).mono ?_
                rintro e w190 ⟨rfl, hb⟩
                refine ⟨_, rfl, ?_⟩
                have n0_ := Aside0.mk (blk_below (g := gb173) (o := .cells #[.int .u32 t169, .int .i64 t170] 24 (0, 0)) (by (with_reducible repeat first | apply bN | apply bD | apply bA); exact BK173.out) hb)
                have n1_ := Aside0.mk (blk_below (g := gb174) (o := .cells #[.int .u32 t171, .int .i64 t172] 24 (0, 0)) (by (with_reducible repeat first | apply bN | apply bD | apply bA); exact BK174.out) hb)
                have n2_ := Aside0.mk (blk_below (g := gb178) (o := .cells #[.int .u32 t175, .int .i64 t176] 24 (0, 0)) (by (with_reducible repeat first | apply bN | apply bD | apply bA); exact BK178.out) hb)
                have n3_ := Aside0.mk (blk_below (g := gb182) (o := .cells #[.int .u32 t179, .int .i64 t180] 24 (0, 0)) (by (with_reducible repeat first | apply bN | apply bD | apply bA); exact BK182.out) hb)
                have n4_ := Aside0.mk (blk_below (g := gb186) (o := .cells #[.int .u32 t183, .int .i64 t184] 24 (0, 0)) (by (with_reducible repeat first | apply bN | apply bD | apply bA); exact BK186.out) hb)
                have n5_ := Aside0.mk (blk_below (g := gb190) (o := .cells #[.int .u32 t187, .int .i64 t188] 24 (0, 0)) (by (with_reducible repeat first | apply bN | apply bD | apply bA); exact BK190.out) hb)
                have n6_ := Aside0.mk (below_step (by repeat (first | (with_reducible first | exact HB.out | apply lA | apply lN | apply lD | apply lS GE173.out | apply lS GE174.out | apply lS GE178.out | apply lS GE182.out | apply lS GE186.out | apply lS GE190.out) | exact HB.out)) hb)
                clear BK173
                clear BK174
                clear BK178
                clear BK182
                clear BK186
                clear BK190
                clear HB
                have BK173 := n0_
                have BK174 := n1_
                have BK178 := n2_
                have BK182 := n3_
                have BK186 := n4_
                have BK190 := n5_
                have HB := n6_
                clear n0_ n1_ n2_ n3_ n4_ n5_ n6_
                (try clear hb)
                (try clear hb2)
                (try clear hk)
                (try clear hi)
                refine hK.out _ _ ⟨(blk_cell BK186.out 0).trans rfl, (blk_cell BK186.out 1).trans rfl, (blk_cell BK173.out 0).trans rfl, (blk_cell BK173.out 1).trans rfl, (blk_cell BK190.out 0).trans rfl, (blk_cell BK190.out 1).trans rfl, (blk_cell BK178.out 0).trans rfl, (blk_cell BK178.out 1).trans rfl, (blk_cell BK182.out 0).trans rfl, (blk_cell BK182.out 1).trans rfl⟩ (fun hHeld => ?_)
                clear hK K
                refine norm_ (a' := ?_) ?_ ?_
                rotate_left
                ·show Act.put _ (some 85) _ = _
                 simp only [Act.put, List.setIfInBounds_toArray, List.set_cons_zero, List.set_cons_succ, i64_w, i32_w]
                 rfl
                refine pure_ (i := 26) (N := some 86) (v := ?_) (a' := ?_) v27 rfl rfl (any_of HT_.out (by kernel_rfl)) (fun _ _ _ h => h) (Or.inl ⟨by rfl, ?_⟩) ?_ ?_
                rotate_left
                ·intro w'
                 go_simp
                 with_reducible rfl
                rotate_left
                ·simp only [Act.put, List.setIfInBounds_toArray, List.set_cons_zero, List.set_cons_succ, i64_w, i32_w]
                 rfl
                refine pure_ (i := 27) (N := some 87) (v := ?_) (a' := ?_) v28 rfl rfl (any_of HT_.out (by kernel_rfl)) (fun _ _ _ h => h) (Or.inl ⟨by rfl, ?_⟩) ?_ ?_
                rotate_left
                ·intro w'
                 go_simp
                 with_reducible rfl
                rotate_left
                ·simp only [Act.put, List.setIfInBounds_toArray, List.set_cons_zero, List.set_cons_succ, i64_w, i32_w]
                 rfl
                refine pure_ (i := 28) (N := some 88) (v := ?_) (a' := ?_) v29 rfl rfl (any_of HT_.out (by kernel_rfl)) (fun _ _ _ h => h) (Or.inl ⟨by rfl, ?_⟩) ?_ ?_
                rotate_left
                ·intro w'
                 go_simp
                 with_reducible rfl
                rotate_left
                ·simp only [Act.put, List.setIfInBounds_toArray, List.set_cons_zero, List.set_cons_succ, i64_w, i32_w]
                 rfl
                refine pure_ (i := 30) (N := some 90) (v := ?_) (a' := ?_) v30 rfl rfl (any_of HT_.out (by kernel_rfl)) (fun _ _ _ h => h) (Or.inl ⟨by rfl, ?_⟩) ?_ ?_
                rotate_left
                ·intro w'
                 go_simp
                 with_reducible rfl
                rotate_left
                ·simp only [Act.put, List.setIfInBounds_toArray, List.set_cons_zero, List.set_cons_succ, i64_w, i32_w]
                 rfl
                refine take_ (i := 29) (N := some 89) (v := ?_) (a' := ?_) v31 rfl rfl (take_ofW HT_.out HW_.out (by kernel_rfl)) (fun _ _ _ h => h) (Or.inl ⟨by rfl, ?_⟩) hHeld ?_ ?_
                rotate_left
                ·rintro w' ⟨s0, s1, s2, s3, s4, s5, s6, s7, s8, s9⟩
                 go_simp
                 with_reducible rfl
                rotate_left
                ·simp only [Act.put, List.setIfInBounds_toArray, List.set_cons_zero, List.set_cons_succ, i64_w, i32_w]
                 rfl
                refine one_ (i := 31) (N := some 91) v32 rfl rfl (one_of HT_.out (by kernel_rfl)) (by decide) (fun K hK => ?_)
                refine goes_ Tryd.func17 (by kernel_rfl) rfl #[.agg #[.int .u32 t175, .int .i64 t176], .int .u32 a1] (by rfl) rfl rfl (by (try simp only [List.map_toArray, List.map_cons, List.map_nil]); first | done | rfl) ?_
                with_reducible refine (addr_Has.calls t175 t176 a1 true _ A99.out).mono ?_
                rintro e w191 ⟨rfl, hb⟩
                refine ⟨_, rfl, ?_⟩
                have n0_ := Aside0.mk (blk_below (g := gb173) (o := .cells #[.int .u32 t169, .int .i64 t170] 24 (0, 0)) (by (with_reducible repeat first | apply bN | apply bD | apply bA); exact BK173.out) hb)
                have n1_ := Aside0.mk (blk_below (g := gb174) (o := .cells #[.int .u32 t171, .int .i64 t172] 24 (0, 0)) (by (with_reducible repeat first | apply bN | apply bD | apply bA); exact BK174.out) hb)
                have n2_ := Aside0.mk (blk_below (g := gb178) (o := .cells #[.int .u32 t175, .int .i64 t176] 24 (0, 0)) (by (with_reducible repeat first | apply bN | apply bD | apply bA); exact BK178.out) hb)
                have n3_ := Aside0.mk (blk_below (g := gb182) (o := .cells #[.int .u32 t179, .int .i64 t180] 24 (0, 0)) (by (with_reducible repeat first | apply bN | apply bD | apply bA); exact BK182.out) hb)
                have n4_ := Aside0.mk (blk_below (g := gb186) (o := .cells #[.int .u32 t183, .int .i64 t184] 24 (0, 0)) (by (with_reducible repeat first | apply bN | apply bD | apply bA); exact BK186.out) hb)
                have n5_ := Aside0.mk (blk_below (g := gb190) (o := .cells #[.int .u32 t187, .int .i64 t188] 24 (0, 0)) (by (with_reducible repeat first | apply bN | apply bD | apply bA); exact BK190.out) hb)
                have n6_ := Aside0.mk (below_step (by repeat (first | (with_reducible first | exact HB.out | apply lA | apply lN | apply lD | apply lS GE173.out | apply lS GE174.out | apply lS GE178.out | apply lS GE182.out | apply lS GE186.out | apply lS GE190.out) | exact HB.out)) hb)
                clear BK173
                clear BK174
                clear BK178
                clear BK182
                clear BK186
                clear BK190
                clear HB
                have BK173 := n0_
                have BK174 := n1_
                have BK178 := n2_
                have BK182 := n3_
                have BK186 := n4_
                have BK190 := n5_
                have HB := n6_
                clear n0_ n1_ n2_ n3_ n4_ n5_ n6_
                (try clear hb)
                (try clear hb2)
                (try clear hk)
                (try clear hi)
                refine hK.out _ _ ⟨(blk_cell BK186.out 0).trans rfl, (blk_cell BK186.out 1).trans rfl, (blk_cell BK173.out 0).trans rfl, (blk_cell BK173.out 1).trans rfl, (blk_cell BK190.out 0).trans rfl, (blk_cell BK190.out 1).trans rfl, (blk_cell BK178.out 0).trans rfl, (blk_cell BK178.out 1).trans rfl, (blk_cell BK182.out 0).trans rfl, (blk_cell BK182.out 1).trans rfl⟩ (fun hHeld => ?_)
                clear hK K
                refine norm_ (a' := ?_) ?_ ?_
                rotate_left
                ·show Act.put _ (some 91) _ = _
                 simp only [Act.put, List.setIfInBounds_toArray, List.set_cons_zero, List.set_cons_succ, i64_w, i32_w]
                 rfl
                refine pure_ (i := 32) (N := some 92) (v := ?_) (a' := ?_) v33 rfl rfl (any_of HT_.out (by kernel_rfl)) (fun _ _ _ h => h) (Or.inl ⟨by rfl, ?_⟩) ?_ ?_
                rotate_left
                ·intro w'
                 go_simp
                 with_reducible rfl
                rotate_left
                ·simp only [Act.put, List.setIfInBounds_toArray, List.set_cons_zero, List.set_cons_succ, i64_w, i32_w]
                 rfl
                refine pure_ (i := 34) (N := some 94) (v := ?_) (a' := ?_) v34 rfl rfl (any_of HT_.out (by kernel_rfl)) (fun _ _ _ h => h) (Or.inl ⟨by rfl, ?_⟩) ?_ ?_
                rotate_left
                ·intro w'
                 go_simp
                 with_reducible rfl
                rotate_left
                ·simp only [Act.put, List.setIfInBounds_toArray, List.set_cons_zero, List.set_cons_succ, i64_w, i32_w]
                 rfl
                refine take_ (i := 33) (N := some 93) (v := ?_) (a' := ?_) v35 rfl rfl (take_ofW HT_.out HW_.out (by kernel_rfl)) (fun _ _ _ h => h) (Or.inl ⟨by rfl, ?_⟩) hHeld ?_ ?_
                rotate_left
                ·rintro w' ⟨s0, s1, s2, s3, s4, s5, s6, s7, s8, s9⟩
                 go_simp
                 with_reducible rfl
                rotate_left
                ·simp only [Act.put, List.setIfInBounds_toArray, List.set_cons_zero, List.set_cons_succ, i64_w, i32_w]
                 rfl
                refine one_ (i := 35) (N := some 95) v36 rfl rfl (one_of HT_.out (by kernel_rfl)) (by decide) (fun K hK => ?_)
                refine goes_ Tryd.func17 (by kernel_rfl) rfl #[.agg #[.int .u32 t179, .int .i64 t180], .int .u32 a1] (by rfl) rfl rfl (by (try simp only [List.map_toArray, List.map_cons, List.map_nil]); first | done | rfl) ?_
                with_reducible refine (addr_Has.calls t179 t180 a1 false _ A101.out).mono ?_
                rintro e w192 ⟨rfl, hb⟩
                refine ⟨_, rfl, ?_⟩
                have n0_ := Aside0.mk (blk_below (g := gb173) (o := .cells #[.int .u32 t169, .int .i64 t170] 24 (0, 0)) (by (with_reducible repeat first | apply bN | apply bD | apply bA); exact BK173.out) hb)
                have n1_ := Aside0.mk (blk_below (g := gb174) (o := .cells #[.int .u32 t171, .int .i64 t172] 24 (0, 0)) (by (with_reducible repeat first | apply bN | apply bD | apply bA); exact BK174.out) hb)
                have n2_ := Aside0.mk (blk_below (g := gb178) (o := .cells #[.int .u32 t175, .int .i64 t176] 24 (0, 0)) (by (with_reducible repeat first | apply bN | apply bD | apply bA); exact BK178.out) hb)
                have n3_ := Aside0.mk (blk_below (g := gb182) (o := .cells #[.int .u32 t179, .int .i64 t180] 24 (0, 0)) (by (with_reducible repeat first | apply bN | apply bD | apply bA); exact BK182.out) hb)
                have n4_ := Aside0.mk (blk_below (g := gb186) (o := .cells #[.int .u32 t183, .int .i64 t184] 24 (0, 0)) (by (with_reducible repeat first | apply bN | apply bD | apply bA); exact BK186.out) hb)
                have n5_ := Aside0.mk (blk_below (g := gb190) (o := .cells #[.int .u32 t187, .int .i64 t188] 24 (0, 0)) (by (with_reducible repeat first | apply bN | apply bD | apply bA); exact BK190.out) hb)
                have n6_ := Aside0.mk (below_step (by repeat (first | (with_reducible first | exact HB.out | apply lA | apply lN | apply lD | apply lS GE173.out | apply lS GE174.out | apply lS GE178.out | apply lS GE182.out | apply lS GE186.out | apply lS GE190.out) | exact HB.out)) hb)
                clear BK173
                clear BK174
                clear BK178
                clear BK182
                clear BK186
                clear BK190
                clear HB
                have BK173 := n0_
                have BK174 := n1_
                have BK178 := n2_
                have BK182 := n3_
                have BK186 := n4_
                have BK190 := n5_
                have HB := n6_
                clear n0_ n1_ n2_ n3_ n4_ n5_ n6_
                (try clear hb)
                (try clear hb2)
                (try clear hk)
                (try clear hi)
                refine hK.out _ _ ⟨(blk_cell BK186.out 0).trans rfl, (blk_cell BK186.out 1).trans rfl, (blk_cell BK173.out 0).trans rfl, (blk_cell BK173.out 1).trans rfl, (blk_cell BK190.out 0).trans rfl, (blk_cell BK190.out 1).trans rfl, (blk_cell BK178.out 0).trans rfl, (blk_cell BK178.out 1).trans rfl, (blk_cell BK182.out 0).trans rfl, (blk_cell BK182.out 1).trans rfl⟩ (fun hHeld => ?_)
                clear hK K
                refine norm_ (a' := ?_) ?_ ?_
                rotate_left
                ·show Act.put _ (some 95) _ = _
                 simp only [Act.put, List.setIfInBounds_toArray, List.set_cons_zero, List.set_cons_succ, i64_w, i32_w]
                 rfl
                refine pure_ (i := 36) (N := some 96) (v := ?_) (a' := ?_) v37 rfl rfl (any_of HT_.out (by kernel_rfl)) (fun _ _ _ h => h) (Or.inl ⟨by rfl, ?_⟩) ?_ ?_
                rotate_left
                ·intro w'
                 go_simp
                 with_reducible rfl
                rotate_left
                ·simp only [Act.put, List.setIfInBounds_toArray, List.set_cons_zero, List.set_cons_succ, i64_w, i32_w]
                 rfl
                refine pure_ (i := 37) (N := some 97) (v := ?_) (a' := ?_) v38 rfl rfl (any_of HT_.out (by kernel_rfl)) (fun _ _ _ h => h) (Or.inl ⟨by rfl, ?_⟩) ?_ ?_
                rotate_left
                ·intro w'
                 go_simp
                 with_reducible rfl
                rotate_left
                ·simp only [Act.put, List.setIfInBounds_toArray, List.set_cons_zero, List.set_cons_succ, i64_w, i32_w]
                 rfl
                refine pure_ (i := 38) (N := some 98) (v := ?_) (a' := ?_) v39 rfl rfl (any_of HT_.out (by kernel_rfl)) (fun _ _ _ h => h) (Or.inl ⟨by rfl, ?_⟩) ?_ ?_
                rotate_left
                ·intro w'
                 go_simp
                 with_reducible rfl
                rotate_left
                ·simp only [Act.put, List.setIfInBounds_toArray, List.set_cons_zero, List.set_cons_succ, i64_w, i32_w]
                 rfl
                refine pure_ (i := 40) (N := some 100) (v := ?_) (a' := ?_) v40 rfl rfl (any_of HT_.out (by kernel_rfl)) (fun _ _ _ h => h) (Or.inl ⟨by rfl, ?_⟩) ?_ ?_
                rotate_left
                ·intro w'
                 go_simp
                 with_reducible rfl
                rotate_left
                ·simp only [Act.put, List.setIfInBounds_toArray, List.set_cons_zero, List.set_cons_succ, i64_w, i32_w]
                 rfl
                refine pure_ (i := 43) (N := some 103) (v := ?_) (a' := ?_) v41 rfl rfl (any_of HT_.out (by kernel_rfl)) (fun _ _ _ h => h) (Or.inl ⟨by rfl, ?_⟩) ?_ ?_
                rotate_left
                ·intro w'
                 go_simp
                 with_reducible rfl
                rotate_left
                ·simp only [Act.put, List.setIfInBounds_toArray, List.set_cons_zero, List.set_cons_succ, i64_w, i32_w]
                 rfl
                refine take_ (i := 39) (N := some 99) (v := ?_) (a' := ?_) v42 rfl rfl (take_ofW HT_.out HW_.out (by kernel_rfl)) (fun _ _ _ h => h) (Or.inl ⟨by rfl, ?_⟩) hHeld ?_ ?_
                rotate_left
                ·rintro w' ⟨s0, s1, s2, s3, s4, s5, s6, s7, s8, s9⟩
                 go_simp
                 with_reducible rfl
                rotate_left
                ·simp only [Act.put, List.setIfInBounds_toArray, List.set_cons_zero, List.set_cons_succ, i64_w, i32_w]
                 rfl
                refine take_ (i := 42) (N := some 102) (v := ?_) (a' := ?_) v43 rfl rfl (take_ofW HT_.out HW_.out (by kernel_rfl)) (fun _ _ _ h => h) (Or.inl ⟨by rfl, ?_⟩) hHeld ?_ ?_
                rotate_left
                ·rintro w' ⟨s0, s1, s2, s3, s4, s5, s6, s7, s8, s9⟩
                 go_simp
                 with_reducible rfl
                rotate_left
                ·simp only [Act.put, List.setIfInBounds_toArray, List.set_cons_zero, List.set_cons_succ, i64_w, i32_w]
                 rfl
                refine one_ (i := 41) (N := some 101) v44 rfl rfl (one_of HT_.out (by kernel_rfl)) (by decide) (fun K hK => ?_)
                refine goes_ Tryd.func17 (by kernel_rfl) rfl #[.agg #[.int .u32 t169, .int .i64 t170], .int .u32 a1] (by rfl) rfl rfl (by (try simp only [List.map_toArray, List.map_cons, List.map_nil]); first | done | rfl) ?_
                with_reducible refine (addr_Has.calls t169 t170 a1 t195 _ A131.out).mono ?_
                rintro e w193 ⟨rfl, hb⟩
                refine ⟨_, rfl, ?_⟩
                have n0_ := Aside0.mk (blk_below (g := gb173) (o := .cells #[.int .u32 t169, .int .i64 t170] 24 (0, 0)) (by (with_reducible repeat first | apply bN | apply bD | apply bA); exact BK173.out) hb)
                have n1_ := Aside0.mk (blk_below (g := gb174) (o := .cells #[.int .u32 t171, .int .i64 t172] 24 (0, 0)) (by (with_reducible repeat first | apply bN | apply bD | apply bA); exact BK174.out) hb)
                have n2_ := Aside0.mk (blk_below (g := gb178) (o := .cells #[.int .u32 t175, .int .i64 t176] 24 (0, 0)) (by (with_reducible repeat first | apply bN | apply bD | apply bA); exact BK178.out) hb)
                have n3_ := Aside0.mk (blk_below (g := gb182) (o := .cells #[.int .u32 t179, .int .i64 t180] 24 (0, 0)) (by (with_reducible repeat first | apply bN | apply bD | apply bA); exact BK182.out) hb)
                have n4_ := Aside0.mk (blk_below (g := gb186) (o := .cells #[.int .u32 t183, .int .i64 t184] 24 (0, 0)) (by (with_reducible repeat first | apply bN | apply bD | apply bA); exact BK186.out) hb)
                have n5_ := Aside0.mk (blk_below (g := gb190) (o := .cells #[.int .u32 t187, .int .i64 t188] 24 (0, 0)) (by (with_reducible repeat first | apply bN | apply bD | apply bA); exact BK190.out) hb)
                have n6_ := Aside0.mk (below_step (by repeat (first | (with_reducible first | exact HB.out | apply lA | apply lN | apply lD | apply lS GE173.out | apply lS GE174.out | apply lS GE178.out | apply lS GE182.out | apply lS GE186.out | apply lS GE190.out) | exact HB.out)) hb)
                clear BK173
                clear BK174
                clear BK178
                clear BK182
                clear BK186
                clear BK190
                clear HB
                have BK173 := n0_
                have BK174 := n1_
                have BK178 := n2_
                have BK182 := n3_
                have BK186 := n4_
                have BK190 := n5_
                have HB := n6_
                clear n0_ n1_ n2_ n3_ n4_ n5_ n6_
                (try clear hb)
                (try clear hb2)
                (try clear hk)
                (try clear hi)
                refine hK.out _ _ ⟨(blk_cell BK186.out 0).trans rfl, (blk_cell BK186.out 1).trans rfl, (blk_cell BK173.out 0).trans rfl, (blk_cell BK173.out 1).trans rfl, (blk_cell BK190.out 0).trans rfl, (blk_cell BK190.out 1).trans rfl, (blk_cell BK178.out 0).trans rfl, (blk_cell BK178.out 1).trans rfl, (blk_cell BK182.out 0).trans rfl, (blk_cell BK182.out 1).trans rfl⟩ (fun hHeld => ?_)
                clear hK K
                refine norm_ (a' := ?_) ?_ ?_
                rotate_left
                ·show Act.put _ (some 101) _ = _
                 simp only [Act.put, List.setIfInBounds_toArray, List.set_cons_zero, List.set_cons_succ, i64_w, i32_w]
                 rfl
                refine one_ (i := 44) (N := some 104) v45 rfl rfl (one_of HT_.out (by kernel_rfl)) (by decide) (fun K hK => ?_)
                refine goes_ Tryd.func17 (by kernel_rfl) rfl #[.agg #[.int .u32 t175, .int .i64 t176], .int .u32 a1] (by rfl) rfl rfl (by (try simp only [List.map_toArray, List.map_cons, List.map_nil]); first | done | rfl) ?_
                with_reducible refine (addr_Has.calls t175 t176 a1 true _ A132.out).mono ?_
                rintro e w194 ⟨rfl, hb⟩
                refine ⟨_, rfl, ?_⟩
                have n0_ := Aside0.mk (blk_below (g := gb173) (o := .cells #[.int .u32 t169, .int .i64 t170] 24 (0, 0)) (by (with_reducible repeat first | apply bN | apply bD | apply bA); exact BK173.out) hb)
                have n1_ := Aside0.mk (blk_below (g := gb174) (o := .cells #[.int .u32 t171, .int .i64 t172] 24 (0, 0)) (by (with_reducible repeat first | apply bN | apply bD | apply bA); exact BK174.out) hb)
                have n2_ := Aside0.mk (blk_below (g := gb178) (o := .cells #[.int .u32 t175, .int .i64 t176] 24 (0, 0)) (by (with_reducible repeat first | apply bN | apply bD | apply bA); exact BK178.out) hb)
                have n3_ := Aside0.mk (blk_below (g := gb182) (o := .cells #[.int .u32 t179, .int .i64 t180] 24 (0, 0)) (by (with_reducible repeat first | apply bN | apply bD | apply bA); exact BK182.out) hb)
                have n4_ := Aside0.mk (blk_below (g := gb186) (o := .cells #[.int .u32 t183, .int .i64 t184] 24 (0, 0)) (by (with_reducible repeat first | apply bN | apply bD | apply bA); exact BK186.out) hb)
                have n5_ := Aside0.mk (blk_below (g := gb190) (o := .cells #[.int .u32 t187, .int .i64 t188] 24 (0, 0)) (by (with_reducible repeat first | apply bN | apply bD | apply bA); exact BK190.out) hb)
                have n6_ := Aside0.mk (below_step (by repeat (first | (with_reducible first | exact HB.out | apply lA | apply lN | apply lD | apply lS GE173.out | apply lS GE174.out | apply lS GE178.out | apply lS GE182.out | apply lS GE186.out | apply lS GE190.out) | exact HB.out)) hb)
                clear BK173
                clear BK174
                clear BK178
                clear BK182
                clear BK186
                clear BK190
                clear HB
                have BK173 := n0_
                have BK174 := n1_
                have BK178 := n2_
                have BK182 := n3_
                have BK186 := n4_
                have BK190 := n5_
                have HB := n6_
                clear n0_ n1_ n2_ n3_ n4_ n5_ n6_
                (try clear hb)
                (try clear hb2)
                (try clear hk)
                (try clear hi)
                refine hK.out _ _ ⟨(blk_cell BK186.out 0).trans rfl, (blk_cell BK186.out 1).trans rfl, (blk_cell BK173.out 0).trans rfl, (blk_cell BK173.out 1).trans rfl, (blk_cell BK190.out 0).trans rfl, (blk_cell BK190.out 1).trans rfl, (blk_cell BK178.out 0).trans rfl, (blk_cell BK178.out 1).trans rfl, (blk_cell BK182.out 0).trans rfl, (blk_cell BK182.out 1).trans rfl⟩ (fun hHeld => ?_)
                clear hK K
                refine norm_ (a' := ?_) ?_ ?_
                rotate_left
                ·show Act.put _ (some 104) _ = _
                 simp only [Act.put, List.setIfInBounds_toArray, List.set_cons_zero, List.set_cons_succ, i64_w, i32_w]
                 rfl
                refine pure_ (i := 45) (N := some 105) (v := ?_) (a' := ?_) v46 rfl rfl (any_of HT_.out (by kernel_rfl)) (fun _ _ _ h => h) (Or.inl ⟨by rfl, ?_⟩) ?_ ?_
                rotate_left
                ·intro w'
                 go_simp
                 with_reducible rfl
                rotate_left
                ·simp only [Act.put, List.setIfInBounds_toArray, List.set_cons_zero, List.set_cons_succ, i64_w, i32_w]
                 rfl
                refine pure_ (i := 46) (N := some 106) (v := undef) (a' := ?_) v47 rfl rfl (any_of HT_.out (by kernel_rfl)) (fun _ _ _ h => h) (Or.inr ⟨by rfl, rfl⟩) ?_ ?_
                rotate_left
                ·simp only [Act.put, List.setIfInBounds_toArray, List.set_cons_zero, List.set_cons_succ, i64_w, i32_w]
                 rfl
                refine pure_ (i := 47) (N := some 107) (v := undef) (a' := ?_) v48 rfl rfl (any_of HT_.out (by kernel_rfl)) (fun _ _ _ h => h) (Or.inr ⟨by rfl, rfl⟩) ?_ ?_
                rotate_left
                ·simp only [Act.put, List.setIfInBounds_toArray, List.set_cons_zero, List.set_cons_succ, i64_w, i32_w]
                 rfl
                refine pure_ (i := 48) (N := some 108) (v := undef) (a' := ?_) v49 rfl rfl (any_of HT_.out (by kernel_rfl)) (fun _ _ _ h => h) (Or.inr ⟨by rfl, rfl⟩) ?_ ?_
                rotate_left
                ·simp only [Act.put, List.setIfInBounds_toArray, List.set_cons_zero, List.set_cons_succ, i64_w, i32_w]
                 rfl
                refine pure_ (i := 49) (N := some 109) (v := ?_) (a' := ?_) v50 rfl rfl (any_of HT_.out (by kernel_rfl)) (fun _ _ _ h => h) (Or.inl ⟨by rfl, ?_⟩) ?_ ?_
                rotate_left
                ·intro w'
                 go_simp
                 with_reducible rfl
                rotate_left
                ·simp only [Act.put, List.setIfInBounds_toArray, List.set_cons_zero, List.set_cons_succ, i64_w, i32_w]
                 rfl
                refine pure_ (i := 50) (N := some 110) (v := ?_) (a' := ?_) v51 rfl rfl (any_of HT_.out (by kernel_rfl)) (fun _ _ _ h => h) (Or.inl ⟨by rfl, ?_⟩) ?_ ?_
                rotate_left
                ·intro w'
                 go_simp
                 with_reducible rfl
                rotate_left
                ·simp only [Act.put, List.setIfInBounds_toArray, List.set_cons_zero, List.set_cons_succ, i64_w, i32_w]
                 rfl
                refine pure_ (i := 51) (N := some 111) (v := ?_) (a' := ?_) v52 rfl rfl (any_of HT_.out (by kernel_rfl)) (fun _ _ _ h => h) (Or.inl ⟨by rfl, ?_⟩) ?_ ?_
                rotate_left
                ·intro w'
                 go_simp
                 with_reducible rfl
                rotate_left
                ·simp only [Act.put, List.setIfInBounds_toArray, List.set_cons_zero, List.set_cons_succ, i64_w, i32_w]
                 rfl
                refine done_ (done_of HT_.out (by kernel_rfl)) ?_
                try go_wp2
                go_meet
                case rel => exact ⟨_, H', ⟨by have := HJ8.out; first | omega | exact Nat.le_refl _⟩, ⟨by (with_reducible repeat first | apply bN | apply bD | apply bA); exact BK173.out⟩, ⟨by (with_reducible repeat first | apply bN | apply bD | apply bA); exact BK174.out⟩, ⟨by (with_reducible repeat first | apply bN | apply bD | apply bA); exact BK178.out⟩, ⟨by (with_reducible repeat first | apply bN | apply bD | apply bA); exact BK182.out⟩, ⟨by repeat (first | (with_reducible first | exact HB.out | apply lA | apply lN | apply lD | apply lS GE173.out | apply lS GE174.out | apply lS GE178.out | apply lS GE182.out | apply lS GE186.out | apply lS GE190.out) | exact HB.out)⟩⟩
              ·replace c133 := Bool.eq_false_iff.mpr c133
               subst c133
               exact absurd (A99.out.symm.trans A132.out) (by decide)
            ·replace c100 := Bool.eq_false_iff.mpr c100
             subst c100
             have H1 : ((addr_Has.f t169 t170 a1).bind fun t198 => ((addr_Has.f t175 t176 a1).bind fun t199 => (if t199 = true then (if (t198 != true) = true then (some false) else (signpostlaw1_AddrRules.j1 kj8 t169 t170 t171 t172)) else ((addr_Has.f t179 t180 a1).bind fun t200 => (if (t198 != t200) = true then (some false) else (signpostlaw1_AddrRules.j1 kj8 t169 t170 t171 t172)))))) = some r := by rw [if_neg (show ¬ (false = true) by decide)] at H; exact H
             clear H
             have H := H1
             clear H1
             replace H := Option.bind_eq_some_iff.mp H
             obtain ⟨t198, A2590, H⟩ := H
             replace H : ((addr_Has.f t175 t176 a1).bind fun t199 => (if t199 = true then (if (t198 != true) = true then (some false) else (signpostlaw1_AddrRules.j1 kj8 t169 t170 t171 t172)) else ((addr_Has.f t179 t180 a1).bind fun t200 => (if (t198 != t200) = true then (some false) else (signpostlaw1_AddrRules.j1 kj8 t169 t170 t171 t172))))) = some r := H
             have A259 := Aside0.mk A2590
             clear A2590
             replace H := Option.bind_eq_some_iff.mp H
             obtain ⟨t199, A2600, H⟩ := H
             replace H : (if t199 = true then (if (t198 != true) = true then (some false) else (signpostlaw1_AddrRules.j1 kj8 t169 t170 t171 t172)) else ((addr_Has.f t179 t180 a1).bind fun t200 => (if (t198 != t200) = true then (some false) else (signpostlaw1_AddrRules.j1 kj8 t169 t170 t171 t172)))) = some r := H
             have A260 := Aside0.mk A2600
             clear A2600
             by_cases c261 : t199 = true
             ·subst c261
              exact absurd (A99.out.symm.trans A260.out) (by decide)
             ·replace c261 := Bool.eq_false_iff.mpr c261
              subst c261
              have H1 : ((addr_Has.f t179 t180 a1).bind fun t200 => (if (t198 != t200) = true then (some false) else (signpostlaw1_AddrRules.j1 kj8 t169 t170 t171 t172))) = some r := by rw [if_neg (show ¬ (false = true) by decide)] at H; exact H
              clear H
              have H := H1
              clear H1
              replace H := Option.bind_eq_some_iff.mp H
              obtain ⟨t200, A3210, H⟩ := H
              replace H : (if (t198 != t200) = true then (some false) else (signpostlaw1_AddrRules.j1 kj8 t169 t170 t171 t172)) = some r := H
              have A321 := Aside0.mk A3210
              clear A3210
              by_cases c322 : (t198 != t200) = true
              ·rw [if_pos c322] at H
               have c322b0 : (t198 != t200) = true := c322
               (try (have c322b1 : decide (t198 = t200) = false := by simpa using c322))
               (try (have c322b2 : (t198 == t200) = false := by simpa using c322))
               (try (have c322b3 : ¬ (t198 = t200) := by simpa using c322))
               clear c322
               exact absurd ((Option.some.inj H).trans hr) (by decide)
              ·rw [if_neg c322] at H
               have c322b0 : (t198 != t200) = false := by simpa using c322
               (try (have c322b1 : decide (t198 = t200) = true := by simpa using c322))
               (try (have c322b2 : (t198 == t200) = true := by simpa using c322))
               clear c322
               have H' := Aside0.mk H
               clear H
               have hnb353 := NB178_173.out
               have hnc353 := NB173_178.out
               have hnb354 := NB178_174.out
               have hnc354 := NB174_178.out
               have hnb355 := NB178_182.out
               have hnc355 := NB182_178.out
               have hcz356_0 : wc.cell? ⟨gb178, 0, none⟩ = some (.int .u32 t175) := (blk_cell BK178.out 0).trans rfl
               have hcz356_1 : wc.cell? ⟨gb178, 1, none⟩ = some (.int .i64 t176) := (blk_cell BK178.out 1).trans rfl
               have hfz356_0 := blk_frozen BK178.out 0
               have hfz356_1 := blk_frozen BK178.out 1
               try go_wp2_with (first | ((with_reducible refine gate_callee (f := 21) rfl ?_); refine goesL_ (some 52) rfl rfl Tryd.func21 (by kernel_rfl) rfl #[.agg #[.int .u32 t175, .int .i64 t176]] rfl (by (try simp only [List.map_toArray, List.map_cons, List.map_nil]); first | done | rfl) ?_; (with_reducible refine (addr_Up.calls t175 t176 t183 t184 true _ A41.out).mono ?_); rintro e w357 ⟨rfl, hb⟩; refine ⟨_, rfl, ?_⟩; have n0_ := Aside0.mk (blk_below (g := gb173) (o := .cells #[.int .u32 t169, .int .i64 t170] 24 (0, 0)) (by (with_reducible repeat first | apply bN | apply bD | apply bA); exact BK173.out) hb); have n1_ := Aside0.mk (blk_below (g := gb174) (o := .cells #[.int .u32 t171, .int .i64 t172] 24 (0, 0)) (by (with_reducible repeat first | apply bN | apply bD | apply bA); exact BK174.out) hb); have n2_ := Aside0.mk (blk_below (g := gb178) (o := .cells #[.int .u32 t175, .int .i64 t176] 24 (0, 0)) (by (with_reducible repeat first | apply bN | apply bD | apply bA); exact BK178.out) hb); have n3_ := Aside0.mk (blk_below (g := gb182) (o := .cells #[.int .u32 t179, .int .i64 t180] 24 (0, 0)) (by (with_reducible repeat first | apply bN | apply bD | apply bA); exact BK182.out) hb); have n4_ := Aside0.mk (below_step (by repeat (first | (with_reducible first | exact HB.out | apply lA | apply lN | apply lD | apply lS GE173.out | apply lS GE174.out | apply lS GE178.out | apply lS GE182.out) | exact HB.out)) hb); clear BK173; clear BK174; clear BK178; clear BK182; clear HB; have BK173 := n0_; have BK174 := n1_; have BK178 := n2_; have BK182 := n3_; have HB := n4_; clear n0_ n1_ n2_ n3_ n4_; (try clear hb)) | ((with_reducible refine gate_dst (N := 15) rfl ?_); refine box_event ?hg (N := 15) ?hd (cs := #[.int .u32 0, .int .i64 0]) (t := 24) ?hr ?_; (case hd => rfl); (case hg => rfl); (case hr => first | (go_simp; done) | (go_simp; rfl)); intro gb186 hg w358 hbox hb; have n0_ := Aside0.mk (blk_below (g := gb173) (o := .cells #[.int .u32 t169, .int .i64 t170] 24 (0, 0)) (by (with_reducible repeat first | apply bN | apply bD | apply bA); exact BK173.out) hb); have n1_ := Aside0.mk (blk_below (g := gb174) (o := .cells #[.int .u32 t171, .int .i64 t172] 24 (0, 0)) (by (with_reducible repeat first | apply bN | apply bD | apply bA); exact BK174.out) hb); have n2_ := Aside0.mk (blk_below (g := gb178) (o := .cells #[.int .u32 t175, .int .i64 t176] 24 (0, 0)) (by (with_reducible repeat first | apply bN | apply bD | apply bA); exact BK178.out) hb); have n3_ := Aside0.mk (blk_below (g := gb182) (o := .cells #[.int .u32 t179, .int .i64 t180] 24 (0, 0)) (by (with_reducible repeat first | apply bN | apply bD | apply bA); exact BK182.out) hb); have n4_ := Aside0.mk (below_step (by repeat (first | (with_reducible first | exact HB.out | apply lA | apply lN | apply lD | apply lS GE173.out | apply lS GE174.out | apply lS GE178.out | apply lS GE182.out) | exact HB.out)) hb); have n5_ := Aside0.mk (hbox); have n6_ := Aside0.mk ((by rw [hg]; exact (below_size (by repeat (first | (with_reducible first | exact HB.out | apply lA | apply lN | apply lD | apply lS GE173.out | apply lS GE174.out | apply lS GE178.out | apply lS GE182.out) | exact HB.out))) : w.heap.size ≤ gb186)); have n7_ := Aside0.mk ((by rw [hg]; exact (below_size (by repeat (first | (with_reducible first | exact HB.out | apply lA | apply lN | apply lD | apply lS GE173.out | apply lS GE174.out | apply lS GE178.out | apply lS GE182.out) | exact HB.out))) : w.heap.size ≤ gb186)); have n8_ := Aside0.mk ((by rw [hg]; exact Nat.ne_of_lt (blk_lt (g := gb173) (o := .cells #[.int .u32 t169, .int .i64 t170] 24 (0, 0)) (by (with_reducible repeat first | apply bN | apply bD | apply bA); exact BK173.out)) : gb173 ≠ gb186)); have n9_ := Aside0.mk ((by rw [hg]; exact Nat.ne_of_gt (blk_lt (g := gb173) (o := .cells #[.int .u32 t169, .int .i64 t170] 24 (0, 0)) (by (with_reducible repeat first | apply bN | apply bD | apply bA); exact BK173.out)) : gb186 ≠ gb173)); have n10_ := Aside0.mk ((by rw [hg]; exact Nat.ne_of_lt (blk_lt (g := gb174) (o := .cells #[.int .u32 t171, .int .i64 t172] 24 (0, 0)) (by (with_reducible repeat first | apply bN | apply bD | apply bA); exact BK174.out)) : gb174 ≠ gb186)); have n11_ := Aside0.mk ((by rw [hg]; exact Nat.ne_of_gt (blk_lt (g := gb174) (o := .cells #[.int .u32 t171, .int .i64 t172] 24 (0, 0)) (by (with_reducible repeat first | apply bN | apply bD | apply bA); exact BK174.out)) : gb186 ≠ gb174)); have n12_ := Aside0.mk ((by rw [hg]; exact Nat.ne_of_lt (blk_lt (g := gb178) (o := .cells #[.int .u32 t175, .int .i64 t176] 24 (0, 0)) (by (with_reducible repeat first | apply bN | apply bD | apply bA); exact BK178.out)) : gb178 ≠ gb186)); have n13_ := Aside0.mk ((by rw [hg]; exact Nat.ne_of_gt (blk_lt (g := gb178) (o := .cells #[.int .u32 t175, .int .i64 t176] 24 (0, 0)) (by (with_reducible repeat first | apply bN | apply bD | apply bA); exact BK178.out)) : gb186 ≠ gb178)); have n14_ := Aside0.mk ((by rw [hg]; exact Nat.ne_of_lt (blk_lt (g := gb182) (o := .cells #[.int .u32 t179, .int .i64 t180] 24 (0, 0)) (by (with_reducible repeat first | apply bN | apply bD | apply bA); exact BK182.out)) : gb182 ≠ gb186)); have n15_ := Aside0.mk ((by rw [hg]; exact Nat.ne_of_gt (blk_lt (g := gb182) (o := .cells #[.int .u32 t179, .int .i64 t180] 24 (0, 0)) (by (with_reducible repeat first | apply bN | apply bD | apply bA); exact BK182.out)) : gb186 ≠ gb182)); clear BK173; clear BK174; clear BK178; clear BK182; clear HB; have BK173 := n0_; have BK174 := n1_; have BK178 := n2_; have BK182 := n3_; have HB := n4_; have BK186 := n5_; have GW186 := n6_; have GE186 := n7_; have NB173_186 := n8_; have NB186_173 := n9_; have NB174_186 := n10_; have NB186_174 := n11_; have NB178_186 := n12_; have NB186_178 := n13_; have NB182_186 := n14_; have NB186_182 := n15_; clear n0_ n1_ n2_ n3_ n4_ n5_ n6_ n7_ n8_ n9_ n10_ n11_ n12_ n13_ n14_ n15_; clear hb hbox hg; have hnb359 := NB186_173.out; have hnc359 := NB173_186.out; have hnb360 := NB186_174.out; have hnc360 := NB174_186.out; have hnb361 := NB186_178.out; have hnc361 := NB178_186.out; have hnb362 := NB186_182.out; have hnc362 := NB182_186.out; have hcz363_0 : w358.cell? ⟨gb186, 0, none⟩ = some (.int .u32 0) := (blk_cell BK186.out 0).trans rfl; have hcz363_1 : w358.cell? ⟨gb186, 1, none⟩ = some (.int .i64 0) := (blk_cell BK186.out 1).trans rfl; have hfz363_0 := blk_frozen BK186.out 0; have hfz363_1 := blk_frozen BK186.out 1; have hnb364 := NB182_173.out; have hnc364 := NB173_182.out; have hnb365 := NB182_174.out; have hnc365 := NB174_182.out; have hcz366_0 : w358.cell? ⟨gb182, 0, none⟩ = some (.int .u32 t179) := (blk_cell BK182.out 0).trans rfl; have hcz366_1 : w358.cell? ⟨gb182, 1, none⟩ = some (.int .i64 t180) := (blk_cell BK182.out 1).trans rfl; have hfz366_0 := blk_frozen BK182.out 0; have hfz366_1 := blk_frozen BK182.out 1) | ((with_reducible refine gate_callee (f := 21) rfl ?_); refine goesL_ (some 57) rfl rfl Tryd.func21 (by kernel_rfl) rfl #[.agg #[.int .u32 t179, .int .i64 t180]] rfl (by (try simp only [List.map_toArray, List.map_cons, List.map_nil]); first | done | rfl) ?_; (with_reducible refine (addr_Up.calls t179 t180 t187 t188 true _ A42.out).mono ?_); rintro e w367 ⟨rfl, hb⟩; refine ⟨_, rfl, ?_⟩; have n0_ := Aside0.mk (blk_below (g := gb173) (o := .cells #[.int .u32 t169, .int .i64 t170] 24 (0, 0)) (by (with_reducible repeat first | apply bN | apply bD | apply bA); refine blk_far ?_ NB173_186.out _; (with_reducible repeat first | apply bN | apply bD | apply bA); refine blk_far ?_ NB173_186.out _; (with_reducible repeat first | apply bN | apply bD | apply bA); exact BK173.out) hb); have n1_ := Aside0.mk (blk_below (g := gb174) (o := .cells #[.int .u32 t171, .int .i64 t172] 24 (0, 0)) (by (with_reducible repeat first | apply bN | apply bD | apply bA); refine blk_far ?_ NB174_186.out _; (with_reducible repeat first | apply bN | apply bD | apply bA); refine blk_far ?_ NB174_186.out _; (with_reducible repeat first | apply bN | apply bD | apply bA); exact BK174.out) hb); have n2_ := Aside0.mk (blk_below (g := gb178) (o := .cells #[.int .u32 t175, .int .i64 t176] 24 (0, 0)) (by (with_reducible repeat first | apply bN | apply bD | apply bA); refine blk_far ?_ NB178_186.out _; (with_reducible repeat first | apply bN | apply bD | apply bA); refine blk_far ?_ NB178_186.out _; (with_reducible repeat first | apply bN | apply bD | apply bA); exact BK178.out) hb); have n3_ := Aside0.mk (blk_below (g := gb182) (o := .cells #[.int .u32 t179, .int .i64 t180] 24 (0, 0)) (by (with_reducible repeat first | apply bN | apply bD | apply bA); refine blk_far ?_ NB182_186.out _; (with_reducible repeat first | apply bN | apply bD | apply bA); refine blk_far ?_ NB182_186.out _; (with_reducible repeat first | apply bN | apply bD | apply bA); exact BK182.out) hb); have n4_ := Aside0.mk (blk_below (g := gb186) (o := .cells #[.int .u32 t183, .int .i64 t184] 24 (0, 0)) (by (with_reducible repeat first | apply bN | apply bD | apply bA); refine blk_put (cs := #[.int .u32 t183, .int .i64 0]) ?_ 1 _ rfl; (with_reducible repeat first | apply bN | apply bD | apply bA); refine blk_put (cs := #[.int .u32 0, .int .i64 0]) ?_ 0 _ rfl; (with_reducible repeat first | apply bN | apply bD | apply bA); exact BK186.out) hb); have n5_ := Aside0.mk (below_step (by repeat (first | (with_reducible first | exact HB.out | apply lA | apply lN | apply lD | apply lS GE173.out | apply lS GE174.out | apply lS GE178.out | apply lS GE182.out | apply lS GE186.out) | exact HB.out)) hb); clear BK173; clear BK174; clear BK178; clear BK182; clear BK186; clear HB; have BK173 := n0_; have BK174 := n1_; have BK178 := n2_; have BK182 := n3_; have BK186 := n4_; have HB := n5_; clear n0_ n1_ n2_ n3_ n4_ n5_; (try clear hb)) | ((with_reducible refine gate_dst (N := 17) rfl ?_); refine box_event ?hg (N := 17) ?hd (cs := #[.int .u32 0, .int .i64 0]) (t := 24) ?hr ?_; (case hd => rfl); (case hg => rfl); (case hr => first | (go_simp; done) | (go_simp; rfl)); intro gb190 hg w368 hbox hb; have n0_ := Aside0.mk (blk_below (g := gb173) (o := .cells #[.int .u32 t169, .int .i64 t170] 24 (0, 0)) (by (with_reducible repeat first | apply bN | apply bD | apply bA); exact BK173.out) hb); have n1_ := Aside0.mk (blk_below (g := gb174) (o := .cells #[.int .u32 t171, .int .i64 t172] 24 (0, 0)) (by (with_reducible repeat first | apply bN | apply bD | apply bA); exact BK174.out) hb); have n2_ := Aside0.mk (blk_below (g := gb178) (o := .cells #[.int .u32 t175, .int .i64 t176] 24 (0, 0)) (by (with_reducible repeat first | apply bN | apply bD | apply bA); exact BK178.out) hb); have n3_ := Aside0.mk (blk_below (g := gb182) (o := .cells #[.int .u32 t179, .int .i64 t180] 24 (0, 0)) (by (with_reducible repeat first | apply bN | apply bD | apply bA); exact BK182.out) hb); have n4_ := Aside0.mk (blk_below (g := gb186) (o := .cells #[.int .u32 t183, .int .i64 t184] 24 (0, 0)) (by (with_reducible repeat first | apply bN | apply bD | apply bA); exact BK186.out) hb); have n5_ := Aside0.mk (below_step (by repeat (first | (with_reducible first | exact HB.out | apply lA | apply lN | apply lD | apply lS GE173.out | apply lS GE174.out | apply lS GE178.out | apply lS GE182.out | apply lS GE186.out) | exact HB.out)) hb); have n6_ := Aside0.mk (hbox); have n7_ := Aside0.mk ((by rw [hg]; exact (below_size (by repeat (first | (with_reducible first | exact HB.out | apply lA | apply lN | apply lD | apply lS GE173.out | apply lS GE174.out | apply lS GE178.out | apply lS GE182.out | apply lS GE186.out) | exact HB.out))) : w.heap.size ≤ gb190)); have n8_ := Aside0.mk ((by rw [hg]; exact (below_size (by repeat (first | (with_reducible first | exact HB.out | apply lA | apply lN | apply lD | apply lS GE173.out | apply lS GE174.out | apply lS GE178.out | apply lS GE182.out | apply lS GE186.out) | exact HB.out))) : w.heap.size ≤ gb190)); have n9_ := Aside0.mk ((by rw [hg]; exact Nat.ne_of_lt (blk_lt (g := gb173) (o := .cells #[.int .u32 t169, .int .i64 t170] 24 (0, 0)) (by (with_reducible repeat first | apply bN | apply bD | apply bA); exact BK173.out)) : gb173 ≠ gb190)); have n10_ := Aside0.mk ((by rw [hg]; exact Nat.ne_of_gt (blk_lt (g := gb173) (o := .cells #[.int .u32 t169, .int .i64 t170] 24 (0, 0)) (by (with_reducible repeat first | apply bN | apply bD | apply bA); exact BK173.out)) : gb190 ≠ gb173)); have n11_ := Aside0.mk ((by rw [hg]; exact Nat.ne_of_lt (blk_lt (g := gb174) (o := .cells #[.int .u32 t171, .int .i64 t172] 24 (0, 0)) (by (with_reducible repeat first | apply bN | apply bD | apply bA); exact BK174.out)) : gb174 ≠ gb190)); have n12_ := Aside0.mk ((by rw [hg]; exact Nat.ne_of_gt (blk_lt (g := gb174) (o := .cells #[.int .u32 t171, .int .i64 t172] 24 (0, 0)) (by (with_reducible repeat first | apply bN | apply bD | apply bA); exact BK174.out)) : gb190 ≠ gb174)); have n13_ := Aside0.mk ((by rw [hg]; exact Nat.ne_of_lt (blk_lt (g := gb178) (o := .cells #[.int .u32 t175, .int .i64 t176] 24 (0, 0)) (by (with_reducible repeat first | apply bN | apply bD | apply bA); exact BK178.out)) : gb178 ≠ gb190)); have n14_ := Aside0.mk ((by rw [hg]; exact Nat.ne_of_gt (blk_lt (g := gb178) (o := .cells #[.int .u32 t175, .int .i64 t176] 24 (0, 0)) (by (with_reducible repeat first | apply bN | apply bD | apply bA); exact BK178.out)) : gb190 ≠ gb178)); have n15_ := Aside0.mk ((by rw [hg]; exact Nat.ne_of_lt (blk_lt (g := gb182) (o := .cells #[.int .u32 t179, .int .i64 t180] 24 (0, 0)) (by (with_reducible repeat first | apply bN | apply bD | apply bA); exact BK182.out)) : gb182 ≠ gb190)); have n16_ := Aside0.mk ((by rw [hg]; exact Nat.ne_of_gt (blk_lt (g := gb182) (o := .cells #[.int .u32 t179, .int .i64 t180] 24 (0, 0)) (by (with_reducible repeat first | apply bN | apply bD | apply bA); exact BK182.out)) : gb190 ≠ gb182)); have n17_ := Aside0.mk ((by rw [hg]; exact Nat.ne_of_lt (blk_lt (g := gb186) (o := .cells #[.int .u32 t183, .int .i64 t184] 24 (0, 0)) (by (with_reducible repeat first | apply bN | apply bD | apply bA); exact BK186.out)) : gb186 ≠ gb190)); have n18_ := Aside0.mk ((by rw [hg]; exact Nat.ne_of_gt (blk_lt (g := gb186) (o := .cells #[.int .u32 t183, .int .i64 t184] 24 (0, 0)) (by (with_reducible repeat first | apply bN | apply bD | apply bA); exact BK186.out)) : gb190 ≠ gb186)); clear BK173; clear BK174; clear BK178; clear BK182; clear BK186; clear HB; have BK173 := n0_; have BK174 := n1_; have BK178 := n2_; have BK182 := n3_; have BK186 := n4_; have HB := n5_; have BK190 := n6_; have GW190 := n7_; have GE190 := n8_; have NB173_190 := n9_; have NB190_173 := n10_; have NB174_190 := n11_; have NB190_174 := n12_; have NB178_190 := n13_; have NB190_178 := n14_; have NB182_190 := n15_; have NB190_182 := n16_; have NB186_190 := n17_; have NB190_186 := n18_; clear n0_ n1_ n2_ n3_ n4_ n5_ n6_ n7_ n8_ n9_ n10_ n11_ n12_ n13_ n14_ n15_ n16_ n17_ n18_; clear hb hbox hg; have hnb369 := NB190_173.out; have hnc369 := NB173_190.out; have hnb370 := NB190_174.out; have hnc370 := NB174_190.out; have hnb371 := NB190_178.out; have hnc371 := NB178_190.out; have hnb372 := NB190_182.out; have hnc372 := NB182_190.out; have hnb373 := NB190_186.out; have hnc373 := NB186_190.out; have hcz374_0 : w368.cell? ⟨gb190, 0, none⟩ = some (.int .u32 0) := (blk_cell BK190.out 0).trans rfl; have hcz374_1 : w368.cell? ⟨gb190, 1, none⟩ = some (.int .i64 0) := (blk_cell BK190.out 1).trans rfl; have hfz374_0 := blk_frozen BK190.out 0; have hfz374_1 := blk_frozen BK190.out 1))
               have n0_ : Aside0 (((w368.setCell ⟨gb190, 0, none⟩ (.int .u32 t187)).setCell ⟨gb190, 1, none⟩ (.int .i64 t188)).heap[gb173]? = some (.cells #[.int .u32 t169, .int .i64 t170] 24 (0, 0))) := ⟨by (with_reducible repeat first | apply bN | apply bD | apply bA); refine blk_far ?_ NB173_190.out _; (with_reducible repeat first | apply bN | apply bD | apply bA); refine blk_far ?_ NB173_190.out _; (with_reducible repeat first | apply bN | apply bD | apply bA); exact BK173.out⟩
               have n1_ : Aside0 (((w368.setCell ⟨gb190, 0, none⟩ (.int .u32 t187)).setCell ⟨gb190, 1, none⟩ (.int .i64 t188)).heap[gb174]? = some (.cells #[.int .u32 t171, .int .i64 t172] 24 (0, 0))) := ⟨by (with_reducible repeat first | apply bN | apply bD | apply bA); refine blk_far ?_ NB174_190.out _; (with_reducible repeat first | apply bN | apply bD | apply bA); refine blk_far ?_ NB174_190.out _; (with_reducible repeat first | apply bN | apply bD | apply bA); exact BK174.out⟩
               have n2_ : Aside0 (((w368.setCell ⟨gb190, 0, none⟩ (.int .u32 t187)).setCell ⟨gb190, 1, none⟩ (.int .i64 t188)).heap[gb178]? = some (.cells #[.int .u32 t175, .int .i64 t176] 24 (0, 0))) := ⟨by (with_reducible repeat first | apply bN | apply bD | apply bA); refine blk_far ?_ NB178_190.out _; (with_reducible repeat first | apply bN | apply bD | apply bA); refine blk_far ?_ NB178_190.out _; (with_reducible repeat first | apply bN | apply bD | apply bA); exact BK178.out⟩
               have n3_ : Aside0 (((w368.setCell ⟨gb190, 0, none⟩ (.int .u32 t187)).setCell ⟨gb190, 1, none⟩ (.int .i64 t188)).heap[gb182]? = some (.cells #[.int .u32 t179, .int .i64 t180] 24 (0, 0))) := ⟨by (with_reducible repeat first | apply bN | apply bD | apply bA); refine blk_far ?_ NB182_190.out _; (with_reducible repeat first | apply bN | apply bD | apply bA); refine blk_far ?_ NB182_190.out _; (with_reducible repeat first | apply bN | apply bD | apply bA); exact BK182.out⟩
               have n4_ : Aside0 (((w368.setCell ⟨gb190, 0, none⟩ (.int .u32 t187)).setCell ⟨gb190, 1, none⟩ (.int .i64 t188)).heap[gb186]? = some (.cells #[.int .u32 t183, .int .i64 t184] 24 (0, 0))) := ⟨by (with_reducible repeat first | apply bN | apply bD | apply bA); refine blk_far ?_ NB186_190.out _; (with_reducible repeat first | apply bN | apply bD | apply bA); refine blk_far ?_ NB186_190.out _; (with_reducible repeat first | apply bN | apply bD | apply bA); exact BK186.out⟩
               have n5_ : Aside0 (((w368.setCell ⟨gb190, 0, none⟩ (.int .u32 t187)).setCell ⟨gb190, 1, none⟩ (.int .i64 t188)).heap[gb190]? = some (.cells #[.int .u32 t187, .int .i64 t188] 24 (0, 0))) := ⟨by (with_reducible repeat first | apply bN | apply bD | apply bA); refine blk_put (cs := #[.int .u32 t187, .int .i64 0]) ?_ 1 _ rfl; (with_reducible repeat first | apply bN | apply bD | apply bA); refine blk_put (cs := #[.int .u32 0, .int .i64 0]) ?_ 0 _ rfl; (with_reducible repeat first | apply bN | apply bD | apply bA); exact BK190.out⟩
               have n6_ : Aside0 (Below w.heap.size w ((w368.setCell ⟨gb190, 0, none⟩ (.int .u32 t187)).setCell ⟨gb190, 1, none⟩ (.int .i64 t188))) := ⟨by repeat (first | (with_reducible first | exact HB.out | apply lA | apply lN | apply lD | apply lS GE173.out | apply lS GE174.out | apply lS GE178.out | apply lS GE182.out | apply lS GE186.out | apply lS GE190.out) | exact HB.out)⟩
               (try clear BK173)
               (try clear BK174)
               (try clear BK178)
               (try clear BK182)
               (try clear BK186)
               (try clear BK190)
               (try clear HB)
               generalize ((w368.setCell ⟨gb190, 0, none⟩ (.int .u32 t187)).setCell ⟨gb190, 1, none⟩ (.int .i64 t188)) = w375 at n0_ n1_ n2_ n3_ n4_ n5_ n6_ ⊢
               have BK173 := n0_
               have BK174 := n1_
               have BK178 := n2_
               have BK182 := n3_
               have BK186 := n4_
               have BK190 := n5_
               have HB := n6_
               clear n0_ n1_ n2_ n3_ n4_ n5_ n6_
               have n0_ := Aside0.mk (blk_drew BK173.out)
               have n1_ := Aside0.mk (blk_drew BK174.out)
               have n2_ := Aside0.mk (blk_drew BK178.out)
               have n3_ := Aside0.mk (blk_drew BK182.out)
               have n4_ := Aside0.mk (blk_drew BK186.out)
               have n5_ := Aside0.mk (blk_drew BK190.out)
               have n6_ := Aside0.mk (below_drew1 HB.out)
               clear BK173
               clear BK174
               clear BK178
               clear BK182
               clear BK186
               clear BK190
               clear HB
               have BK173 := n0_
               have BK174 := n1_
               have BK178 := n2_
               have BK182 := n3_
               have BK186 := n4_
               have BK190 := n5_
               have HB := n6_
               clear n0_ n1_ n2_ n3_ n4_ n5_ n6_
               refine start_ (n := 52) (S := fun w' => w'.cell? ⟨gb186, 0, none⟩ = some (.int .u32 t183) ∧ w'.cell? ⟨gb186, 1, none⟩ = some (.int .i64 t184) ∧ w'.cell? ⟨gb173, 0, none⟩ = some (.int .u32 t169) ∧ w'.cell? ⟨gb173, 1, none⟩ = some (.int .i64 t170) ∧ w'.cell? ⟨gb190, 0, none⟩ = some (.int .u32 t187) ∧ w'.cell? ⟨gb190, 1, none⟩ = some (.int .i64 t188) ∧ w'.cell? ⟨gb178, 0, none⟩ = some (.int .u32 t175) ∧ w'.cell? ⟨gb178, 1, none⟩ = some (.int .i64 t176) ∧ w'.cell? ⟨gb182, 0, none⟩ = some (.int .u32 t179) ∧ w'.cell? ⟨gb182, 1, none⟩ = some (.int .i64 t180)) (ds := []) v0 (by kernel_rfl) rfl rfl ⟨(blk_cell BK186.out 0).trans rfl, (blk_cell BK186.out 1).trans rfl, (blk_cell BK173.out 0).trans rfl, (blk_cell BK173.out 1).trans rfl, (blk_cell BK190.out 0).trans rfl, (blk_cell BK190.out 1).trans rfl, (blk_cell BK178.out 0).trans rfl, (blk_cell BK178.out 1).trans rfl, (blk_cell BK182.out 0).trans rfl, (blk_cell BK182.out 1).trans rfl⟩ (fun hHeld => ?_); refine with_tabW signpostlaw1_AddrRules.tab9 signpostlaw1_AddrRules.bits9 (fun HT_ HW_ => ?_)
               generalize w375.drew = w376 at BK173 BK174 BK178 BK182 BK186 BK190 HB hHeld ⊢
               refine pure_ (i := 0) (N := some 60) (v := ?_) (a' := ?_) v1 rfl rfl (any_of HT_.out (by kernel_rfl)) (fun _ _ _ h => h) (Or.inl ⟨by rfl, ?_⟩) ?_ ?_
               rotate_left
               ·intro w'
                go_simp
                with_reducible rfl
               rotate_left
               ·simp only [Act.put, List.setIfInBounds_toArray, List.set_cons_zero, List.set_cons_succ, i64_w, i32_w]
                rfl
               refine pure_ (i := 1) (N := some 61) (v := ?_) (a' := ?_) v2 rfl rfl (any_of HT_.out (by kernel_rfl)) (fun _ _ _ h => h) (Or.inl ⟨by rfl, ?_⟩) ?_ ?_
               rotate_left
               ·intro w'
                go_simp
                with_reducible rfl
               rotate_left
               ·simp only [Act.put, List.setIfInBounds_toArray, List.set_cons_zero, List.set_cons_succ, i64_w, i32_w]
                rfl
               refine pure_ (i := 2) (N := some 62) (v := ?_) (a' := ?_) v3 rfl rfl (any_of HT_.out (by kernel_rfl)) (fun _ _ _ h => h) (Or.inl ⟨by rfl, ?_⟩) ?_ ?_
               rotate_left
               ·intro w'
                go_simp
                with_reducible rfl
               rotate_left
               ·simp only [Act.put, List.setIfInBounds_toArray, List.set_cons_zero, List.set_cons_succ, i64_w, i32_w]
                rfl
               refine pure_ (i := 3) (N := some 63) (v := ?_) (a' := ?_) v4 rfl rfl (any_of HT_.out (by kernel_rfl)) (fun _ _ _ h => h) (Or.inl ⟨by rfl, ?_⟩) ?_ ?_
               rotate_left
               ·intro w'
                go_simp
                with_reducible rfl
               rotate_left
               ·simp only [Act.put, List.setIfInBounds_toArray, List.set_cons_zero, List.set_cons_succ, i64_w, i32_w]
                rfl
               refine pure_ (i := 4) (N := some 64) (v := ?_) (a' := ?_) v5 rfl rfl (any_of HT_.out (by kernel_rfl)) (fun _ _ _ h => h) (Or.inl ⟨by rfl, ?_⟩) ?_ ?_
               rotate_left
               ·intro w'
                go_simp
                with_reducible rfl
               rotate_left
               ·simp only [Act.put, List.setIfInBounds_toArray, List.set_cons_zero, List.set_cons_succ, i64_w, i32_w]
                rfl
               refine pure_ (i := 5) (N := some 65) (v := ?_) (a' := ?_) v6 rfl rfl (any_of HT_.out (by kernel_rfl)) (fun _ _ _ h => h) (Or.inl ⟨by rfl, ?_⟩) ?_ ?_
               rotate_left
               ·intro w'
                go_simp
                with_reducible rfl
               rotate_left
               ·simp only [Act.put, List.setIfInBounds_toArray, List.set_cons_zero, List.set_cons_succ, i64_w, i32_w]
                rfl
               refine pure_ (i := 6) (N := some 66) (v := ?_) (a' := ?_) v7 rfl rfl (any_of HT_.out (by kernel_rfl)) (fun _ _ _ h => h) (Or.inl ⟨by rfl, ?_⟩) ?_ ?_
               rotate_left
               ·intro w'
                go_simp
                with_reducible rfl
               rotate_left
               ·simp only [Act.put, List.setIfInBounds_toArray, List.set_cons_zero, List.set_cons_succ, i64_w, i32_w]
                rfl
               refine take_ (i := 7) (N := some 67) (v := ?_) (a' := ?_) v8 rfl rfl (take_ofW HT_.out HW_.out (by kernel_rfl)) (fun _ _ _ h => h) (Or.inl ⟨by rfl, ?_⟩) hHeld ?_ ?_
               rotate_left
               ·rintro w' ⟨s0, s1, s2, s3, s4, s5, s6, s7, s8, s9⟩
                go_simp
                with_reducible rfl
               rotate_left
               ·simp only [Act.put, List.setIfInBounds_toArray, List.set_cons_zero, List.set_cons_succ, i64_w, i32_w]
                rfl
               refine take_ (i := 8) (N := some 68) (v := ?_) (a' := ?_) v9 rfl rfl (take_ofW HT_.out HW_.out (by kernel_rfl)) (fun _ _ _ h => h) (Or.inl ⟨by rfl, ?_⟩) hHeld ?_ ?_
               rotate_left
               ·rintro w' ⟨s0, s1, s2, s3, s4, s5, s6, s7, s8, s9⟩
                go_simp
                with_reducible rfl
               rotate_left
               ·simp only [Act.put, List.setIfInBounds_toArray, List.set_cons_zero, List.set_cons_succ, i64_w, i32_w]
                rfl
               refine pure_ (i := 9) (N := some 69) (v := ?_) (a' := ?_) v10 rfl rfl (any_of HT_.out (by kernel_rfl)) (fun _ _ _ h => h) (Or.inl ⟨by rfl, ?_⟩) ?_ ?_
               rotate_left
               ·intro w'
                go_simp
                with_reducible rfl
               rotate_left
               ·simp only [Act.put, List.setIfInBounds_toArray, List.set_cons_zero, List.set_cons_succ, i64_w, i32_w]
                rfl
               refine pure_ (i := 10) (N := some 70) (v := ?_) (a' := ?_) v11 rfl rfl (any_of HT_.out (by kernel_rfl)) (fun _ _ _ h => h) (Or.inl ⟨by rfl, ?_⟩) ?_ ?_
               rotate_left
               ·intro w'
                go_simp
                with_reducible rfl
               rotate_left
               ·simp only [Act.put, List.setIfInBounds_toArray, List.set_cons_zero, List.set_cons_succ, i64_w, i32_w]
                rfl
               refine pure_ (i := 11) (N := some 71) (v := ?_) (a' := ?_) v12 rfl rfl (any_of HT_.out (by kernel_rfl)) (fun _ _ _ h => h) (Or.inl ⟨by rfl, ?_⟩) ?_ ?_
               rotate_left
               ·intro w'
                go_simp
                with_reducible rfl
               rotate_left
               ·simp only [Act.put, List.setIfInBounds_toArray, List.set_cons_zero, List.set_cons_succ, i64_w, i32_w]
                rfl
               refine take_ (i := 12) (N := some 72) (v := ?_) (a' := ?_) v13 rfl rfl (take_ofW HT_.out HW_.out (by kernel_rfl)) (fun _ _ _ h => h) (Or.inl ⟨by rfl, ?_⟩) hHeld ?_ ?_
               rotate_left
               ·rintro w' ⟨s0, s1, s2, s3, s4, s5, s6, s7, s8, s9⟩
                go_simp
                with_reducible rfl
               rotate_left
               ·simp only [Act.put, List.setIfInBounds_toArray, List.set_cons_zero, List.set_cons_succ, i64_w, i32_w]
                rfl
               refine take_ (i := 13) (N := some 73) (v := ?_) (a' := ?_) v14 rfl rfl (take_ofW HT_.out HW_.out (by kernel_rfl)) (fun _ _ _ h => h) (Or.inl ⟨by rfl, ?_⟩) hHeld ?_ ?_
               rotate_left
               ·rintro w' ⟨s0, s1, s2, s3, s4, s5, s6, s7, s8, s9⟩
                go_simp
                with_reducible rfl
               rotate_left
               ·simp only [Act.put, List.setIfInBounds_toArray, List.set_cons_zero, List.set_cons_succ, i64_w, i32_w]
                rfl
               refine pure_ (i := 14) (N := some 74) (v := ?_) (a' := ?_) v15 rfl rfl (any_of HT_.out (by kernel_rfl)) (fun _ _ _ h => h) (Or.inl ⟨by rfl, ?_⟩) ?_ ?_
               rotate_left
               ·intro w'
                go_simp
                with_reducible rfl
               rotate_left
               ·simp only [Act.put, List.setIfInBounds_toArray, List.set_cons_zero, List.set_cons_succ, i64_w, i32_w]
                rfl
               refine pure_ (i := 15) (N := some 75) (v := ?_) (a' := ?_) v16 rfl rfl (any_of HT_.out (by kernel_rfl)) (fun _ _ _ h => h) (Or.inl ⟨by rfl, ?_⟩) ?_ ?_
               rotate_left
               ·intro w'
                go_simp
                with_reducible rfl
               rotate_left
               ·simp only [Act.put, List.setIfInBounds_toArray, List.set_cons_zero, List.set_cons_succ, i64_w, i32_w]
                rfl
               refine pure_ (i := 16) (N := some 76) (v := ?_) (a' := ?_) v17 rfl rfl (any_of HT_.out (by kernel_rfl)) (fun _ _ _ h => h) (Or.inl ⟨by rfl, ?_⟩) ?_ ?_
               rotate_left
               ·intro w'
                go_simp
                with_reducible rfl
               rotate_left
               ·simp only [Act.put, List.setIfInBounds_toArray, List.set_cons_zero, List.set_cons_succ, i64_w, i32_w]
                rfl
               refine take_ (i := 17) (N := some 77) (v := ?_) (a' := ?_) v18 rfl rfl (take_ofW HT_.out HW_.out (by kernel_rfl)) (fun _ _ _ h => h) (Or.inl ⟨by rfl, ?_⟩) hHeld ?_ ?_
               rotate_left
               ·rintro w' ⟨s0, s1, s2, s3, s4, s5, s6, s7, s8, s9⟩
                go_simp
                with_reducible rfl
               rotate_left
               ·simp only [Act.put, List.setIfInBounds_toArray, List.set_cons_zero, List.set_cons_succ, i64_w, i32_w]
                rfl
               refine take_ (i := 18) (N := some 78) (v := ?_) (a' := ?_) v19 rfl rfl (take_ofW HT_.out HW_.out (by kernel_rfl)) (fun _ _ _ h => h) (Or.inl ⟨by rfl, ?_⟩) hHeld ?_ ?_
               rotate_left
               ·rintro w' ⟨s0, s1, s2, s3, s4, s5, s6, s7, s8, s9⟩
                go_simp
                with_reducible rfl
               rotate_left
               ·simp only [Act.put, List.setIfInBounds_toArray, List.set_cons_zero, List.set_cons_succ, i64_w, i32_w]
                rfl
               refine one_ (i := 19) (N := some 79) v20 rfl rfl (one_of HT_.out (by kernel_rfl)) (by decide) (fun K hK => ?_)
               refine goes_ Tryd.func18 (by kernel_rfl) rfl #[.agg #[.int .u32 t169, .int .i64 t170], .agg #[.int .u32 t175, .int .i64 t176]] (by rfl) rfl rfl (by (try simp only [List.map_toArray, List.map_cons, List.map_nil]); first | done | rfl) ?_
               with_reducible refine (addr_Less.calls t169 t170 t175 t176 true _ A95.out).mono ?_
               rintro e w377 ⟨rfl, hb⟩
               refine ⟨_, rfl, ?_⟩
               have n0_ := Aside0.mk (blk_below (g := gb173) (o := .cells #[.int .u32 t169, .int .i64 t170] 24 (0, 0)) (by (with_reducible repeat first | apply bN | apply bD | apply bA); exact BK173.out) hb)
               have n1_ := Aside0.mk (blk_below (g := gb174) (o := .cells #[.int .u32 t171, .int .i64 t172] 24 (0, 0)) (by (with_reducible repeat first | apply bN | apply bD | apply bA); exact BK174.out) hb)
               have n2_ := Aside0.mk (blk_below (g := gb178) (o := .cells #[.int .u32 t175, .int .i64 t176] 24 (0, 0)) (by (with_reducible repeat first | apply bN | apply bD | apply bA); exact BK178.out) hb)
               have n3_ := Aside0.mk (blk_below (g := gb182) (o := .cells #[.int .u32 t179, .int .i64 t180] 24 (0, 0)) (by (with_reducible repeat first | apply bN | apply bD | apply bA); exact BK182.out) hb)
               have n4_ := Aside0.mk (blk_below (g := gb186) (o := .cells #[.int .u32 t183, .int .i64 t184] 24 (0, 0)) (by (with_reducible repeat first | apply bN | apply bD | apply bA); exact BK186.out) hb)
               have n5_ := Aside0.mk (blk_below (g := gb190) (o := .cells #[.int .u32 t187, .int .i64 t188] 24 (0, 0)) (by (with_reducible repeat first | apply bN | apply bD | apply bA); exact BK190.out) hb)
               have n6_ := Aside0.mk (below_step (by repeat (first | (with_reducible first | exact HB.out | apply lA | apply lN | apply lD | apply lS GE173.out | apply lS GE174.out | apply lS GE178.out | apply lS GE182.out | apply lS GE186.out | apply lS GE190.out) | exact HB.out)) hb)
               clear BK173
               clear BK174
               clear BK178
               clear BK182
               clear BK186
               clear BK190
               clear HB
               have BK173 := n0_
               have BK174 := n1_
               have BK178 := n2_
               have BK182 := n3_
               have BK186 := n4_
               have BK190 := n5_
               have HB := n6_
               clear n0_ n1_ n2_ n3_ n4_ n5_ n6_
               (try clear hb)
               (try clear hb2)
               (try clear hk)
               (try clear hi)
               refine hK.out _ _ ⟨(blk_cell BK186.out 0).trans rfl, (blk_cell BK186.out 1).trans rfl, (blk_cell BK173.out 0).trans rfl, (blk_cell BK173.out 1).trans rfl, (blk_cell BK190.out 0).trans rfl, (blk_cell BK190.out 1).trans rfl, (blk_cell BK178.out 0).trans rfl, (blk_cell BK178.out 1).trans rfl, (blk_cell BK182.out 0).trans rfl, (blk_cell BK182.out 1).trans rfl⟩ (fun hHeld => ?_)
               clear hK K
               refine norm_ (a' := ?_) ?_ ?_
               rotate_left
               ·show Act.put _ (some 79) _ = _
                simp only [Act.put, List.setIfInBounds_toArray, List.set_cons_zero, List.set_cons_succ, i64_w, i32_w]
                rfl
               refine pure_ (i := 20) (N := some 80) (v := ?_) (a' := ?_) v21 rfl rfl (any_of HT_.out (by kernel_rfl)) (fun _ _ _ h => h) (Or.inl ⟨by rfl, ?_⟩) ?_ ?_
               rotate_left
               ·intro w'
                go_simp
                with_reducible rfl
               rotate_left
               ·simp only [Act.put, List.setIfInBounds_toArray, List.set_cons_zero, List.set_cons_succ, i64_w, i32_w]
                rfl
               refine pure_ (i := 21) (N := some 81) (v := ?_) (a' := ?_) v22 rfl rfl (any_of HT_.out (by kernel_rfl)) (fun _ _ _ h => h) (Or.inl ⟨by rfl, ?_⟩) ?_ ?_
               rotate_left
               ·intro w'
                go_simp
                with_reducible rfl
               rotate_left
               ·simp only [Act.put, List.setIfInBounds_toArray, List.set_cons_zero, List.set_cons_succ, i64_w, i32_w]
                rfl
               refine pure_ (i := 22) (N := some 82) (v := ?_) (a' := ?_) v23 rfl rfl (any_of HT_.out (by kernel_rfl)) (fun _ _ _ h => h) (Or.inl ⟨by rfl, ?_⟩) ?_ ?_
               rotate_left
               ·intro w'
                go_simp
                with_reducible rfl
               rotate_left
               ·simp only [Act.put, List.setIfInBounds_toArray, List.set_cons_zero, List.set_cons_succ, i64_w, i32_w]
                rfl
               refine take_ (i := 23) (N := some 83) (v := ?_) (a' := ?_) v24 rfl rfl (take_ofW HT_.out HW_.out (by kernel_rfl)) (fun _ _ _ h => h) (Or.inl ⟨by rfl, ?_⟩) hHeld ?_ ?_
               rotate_left
               ·rintro w' ⟨s0, s1, s2, s3, s4, s5, s6, s7, s8, s9⟩
                go_simp
                with_reducible rfl
               rotate_left
               ·simp only [Act.put, List.setIfInBounds_toArray, List.set_cons_zero, List.set_cons_succ, i64_w, i32_w]
                rfl
               refine take_ (i := 24) (N := some 84) (v := ?_) (a' := ?_) v25 rfl rfl (take_ofW HT_.out HW_.out (by kernel_rfl)) (fun _ _ _ h => h) (Or.inl ⟨by rfl, ?_⟩) hHeld ?_ ?_
               rotate_left
               ·rintro w' ⟨s0, s1, s2, s3, s4, s5, s6, s7, s8, s9⟩
                go_simp
                with_reducible rfl
               rotate_left
               ·simp only [Act.put, List.setIfInBounds_toArray, List.set_cons_zero, List.set_cons_succ, i64_w, i32_w]
                rfl
               refine one_ (i := 25) (N := some 85) v26 rfl rfl (one_of HT_.out (by kernel_rfl)) (by decide) (fun K hK => ?_)
               refine goes_ Tryd.func18 (by kernel_rfl) rfl #[.agg #[.int .u32 t175, .int .i64 t176], .agg #[.int .u32 t179, .int .i64 t180]] (by rfl) rfl rfl (by (try simp only [List.map_toArray, List.map_cons, List.map_nil]); first | done | rfl) ?_
               with_reducible refine (addr_Less.calls t175 t176 t179 t180 true _ A97.out).mono ?_
               rintro e w378 ⟨rfl, hb⟩
               refine ⟨_, rfl, ?_⟩
               have n0_ := Aside0.mk (blk_below (g := gb173) (o := .cells #[.int .u32 t169, .int .i64 t170] 24 (0, 0)) (by (with_reducible repeat first | apply bN | apply bD | apply bA); exact BK173.out) hb)
               have n1_ := Aside0.mk (blk_below (g := gb174) (o := .cells #[.int .u32 t171, .int .i64 t172] 24 (0, 0)) (by (with_reducible repeat first | apply bN | apply bD | apply bA); exact BK174.out) hb)
               have n2_ := Aside0.mk (blk_below (g := gb178) (o := .cells #[.int .u32 t175, .int .i64 t176] 24 (0, 0)) (by (with_reducible repeat first | apply bN | apply bD | apply bA); exact BK178.out) hb)
               have n3_ := Aside0.mk (blk_below (g := gb182) (o := .cells #[.int .u32 t179, .int .i64 t180] 24 (0, 0)) (by (with_reducible repeat first | apply bN | apply bD | apply bA); exact BK182.out) hb)
               have n4_ := Aside0.mk (blk_below (g := gb186) (o := .cells #[.int .u32 t183, .int .i64 t184] 24 (0, 0)) (by (with_reducible repeat first | apply bN | apply bD | apply bA); exact BK186.out) hb)
               have n5_ := Aside0.mk (blk_below (g := gb190) (o := .cells #[.int .u32 t187, .int .i64 t188] 24 (0, 0)) (by (with_reducible repeat first | apply bN | apply bD | apply bA); exact BK190.out) hb)
               have n6_ := Aside0.mk (below_step (by repeat (first | (with_reducible first | exact HB.out | apply lA | apply lN | apply lD | apply lS GE173.out | apply lS GE174.out | apply lS GE178.out | apply lS GE182.out | apply lS GE186.out | apply lS GE190.out) | exact HB.out)) hb)
               clear BK173
               clear BK174
               clear BK178
               clear BK182
               clear BK186
               clear BK190
               clear HB
               have BK173 := n0_
               have BK174 := n1_
               have BK178 := n2_
               have BK182 := n3_
               have BK186 := n4_
               have BK190 := n5_
               have HB := n6_
               clear n0_ n1_ n2_ n3_ n4_ n5_ n6_
               (try clear hb)
               (try clear hb2)
               (try clear hk)
               (try clear hi)
               refine hK.out _ _ ⟨(blk_cell BK186.out 0).trans rfl, (blk_cell BK186.out 1).trans rfl, (blk_cell BK173.out 0).trans rfl, (blk_cell BK173.out 1).trans rfl, (blk_cell BK190.out 0).trans rfl, (blk_cell BK190.out 1).trans rfl, (blk_cell BK178.out 0).trans rfl, (blk_cell BK178.out 1).trans rfl, (blk_cell BK182.out 0).trans rfl, (blk_cell BK182.out 1).trans rfl⟩ (fun hHeld => ?_)
               clear hK K
               refine norm_ (a' := ?_) ?_ ?_
               rotate_left
               ·show Act.put _ (some 85) _ = _
                simp only [Act.put, List.setIfInBounds_toArray, List.set_cons_zero, List.set_cons_succ, i64_w, i32_w]
                rfl
               refine pure_ (i := 26) (N := some 86) (v := ?_) (a' := ?_) v27 rfl rfl (any_of HT_.out (by kernel_rfl)) (fun _ _ _ h => h) (Or.inl ⟨by rfl, ?_⟩) ?_ ?_
               rotate_left
               ·intro w'
                go_simp
                with_reducible rfl
               rotate_left
               ·simp only [Act.put, List.setIfInBounds_toArray, List.set_cons_zero, List.set_cons_succ, i64_w, i32_w]
                rfl
               refine pure_ (i := 27) (N := some 87) (v := ?_) (a' := ?_) v28 rfl rfl (any_of HT_.out (by kernel_rfl)) (fun _ _ _ h => h) (Or.inl ⟨by rfl, ?_⟩) ?_ ?_
               rotate_left
               ·intro w'
                go_simp
                with_reducible rfl
               rotate_left
               ·simp only [Act.put, List.setIfInBounds_toArray, List.set_cons_zero, List.set_cons_succ, i64_w, i32_w]
                rfl
               refine pure_ (i := 28) (N := some 88) (v := ?_) (a' := ?_) v29 rfl rfl (any_of HT_.out (by kernel_rfl)) (fun _ _ _ h => h) (Or.inl ⟨by rfl, ?_⟩) ?_ ?_
               rotate_left
               ·intro w'
                go_simp
                with_reducible rfl
               rotate_left
               ·simp only [Act.put, List.setIfInBounds_toArray, List.set_cons_zero, List.set_cons_succ, i64_w, i32_w]
                rfl
               refine pure_ (i := 30) (N := some 90) (v := ?_) (a' := ?_) v30 rfl rfl (any_of HT_.out (by kernel_rfl)) (fun _ _ _ h => h) (Or.inl ⟨by rfl, ?_⟩) ?_ ?_
               rotate_left
               ·intro w'
                go_simp
                with_reducible rfl
               rotate_left
               ·simp only [Act.put, List.setIfInBounds_toArray, List.set_cons_zero, List.set_cons_succ, i64_w, i32_w]
                rfl
               refine take_ (i := 29) (N := some 89) (v := ?_) (a' := ?_) v31 rfl rfl (take_ofW HT_.out HW_.out (by kernel_rfl)) (fun _ _ _ h => h) (Or.inl ⟨by rfl, ?_⟩) hHeld ?_ ?_
               rotate_left
               ·rintro w' ⟨s0, s1, s2, s3, s4, s5, s6, s7, s8, s9⟩
                go_simp
                with_reducible rfl
               rotate_left
               ·simp only [Act.put, List.setIfInBounds_toArray, List.set_cons_zero, List.set_cons_succ, i64_w, i32_w]
                rfl
               refine one_ (i := 31) (N := some 91) v32 rfl rfl (one_of HT_.out (by kernel_rfl)) (by decide) (fun K hK => ?_)
               refine goes_ Tryd.func17 (by kernel_rfl) rfl #[.agg #[.int .u32 t175, .int .i64 t176], .int .u32 a1] (by rfl) rfl rfl (by (try simp only [List.map_toArray, List.map_cons, List.map_nil]); first | done | rfl) ?_
               with_reducible refine (addr_Has.calls t175 t176 a1 false _ A99.out).mono ?_
               rintro e w379 ⟨rfl, hb⟩
               refine ⟨_, rfl, ?_⟩
               have n0_ := Aside0.mk (blk_below (g := gb173) (o := .cells #[.int .u32 t169, .int .i64 t170] 24 (0, 0)) (by (with_reducible repeat first | apply bN | apply bD | apply bA); exact BK173.out) hb)
               have n1_ := Aside0.mk (blk_below (g := gb174) (o := .cells #[.int .u32 t171, .int .i64 t172] 24 (0, 0)) (by (with_reducible repeat first | apply bN | apply bD | apply bA); exact BK174.out) hb)
               have n2_ := Aside0.mk (blk_below (g := gb178) (o := .cells #[.int .u32 t175, .int .i64 t176] 24 (0, 0)) (by (with_reducible repeat first | apply bN | apply bD | apply bA); exact BK178.out) hb)
               have n3_ := Aside0.mk (blk_below (g := gb182) (o := .cells #[.int .u32 t179, .int .i64 t180] 24 (0, 0)) (by (with_reducible repeat first | apply bN | apply bD | apply bA); exact BK182.out) hb)
               have n4_ := Aside0.mk (blk_below (g := gb186) (o := .cells #[.int .u32 t183, .int .i64 t184] 24 (0, 0)) (by (with_reducible repeat first | apply bN | apply bD | apply bA); exact BK186.out) hb)
               have n5_ := Aside0.mk (blk_below (g := gb190) (o := .cells #[.int .u32 t187, .int .i64 t188] 24 (0, 0)) (by (with_reducible repeat first | apply bN | apply bD | apply bA); exact BK190.out) hb)
               have n6_ := Aside0.mk (below_step (by repeat (first | (with_reducible first | exact HB.out | apply lA | apply lN | apply lD | apply lS GE173.out | apply lS GE174.out | apply lS GE178.out | apply lS GE182.out | apply lS GE186.out | apply lS GE190.out) | exact HB.out)) hb)
               clear BK173
               clear BK174
               clear BK178
               clear BK182
               clear BK186
               clear BK190
               clear HB
               have BK173 := n0_
               have BK174 := n1_
               have BK178 := n2_
               have BK182 := n3_
               have BK186 := n4_
               have BK190 := n5_
               have HB := n6_
               clear n0_ n1_ n2_ n3_ n4_ n5_ n6_
               (try clear hb)
               (try clear hb2)
               (try clear hk)
               (try clear hi)
               refine hK.out _ _ ⟨(blk_cell BK186.out 0).trans rfl, (blk_cell BK186.out 1).trans rfl, (blk_cell BK173.out 0).trans rfl, (blk_cell BK173.out 1).trans rfl, (blk_cell BK190.out 0).trans rfl, (blk_cell BK190.out 1).trans rfl, (blk_cell BK178.out 0).trans rfl, (blk_cell BK178.out 1).trans rfl, (blk_cell BK182.out 0).trans rfl, (blk_cell BK182.out 1).trans rfl⟩ (fun hHeld => ?_)
               clear hK K
               refine norm_ (a' := ?_) ?_ ?_
               rotate_left
               ·show Act.put _ (some 91) _ = _
                simp only [Act.put, List.setIfInBounds_toArray, List.set_cons_zero, List.set_cons_succ, i64_w, i32_w]
                rfl
               refine pure_ (i := 32) (N := some 92) (v := ?_) (a' := ?_) v33 rfl rfl (any_of HT_.out (by kernel_rfl)) (fun _ _ _ h => h) (Or.inl ⟨by rfl, ?_⟩) ?_ ?_
               rotate_left
               ·intro w'
                go_simp
                with_reducible rfl
               rotate_left
               ·simp only [Act.put, List.setIfInBounds_toArray, List.set_cons_zero, List.set_cons_succ, i64_w, i32_w]
                rfl
               refine pure_ (i := 33) (N := some 93) (v := undef) (a' := ?_) v53 rfl rfl (any_of HT_.out (by kernel_rfl)) (fun _ _ _ h => h) (Or.inr ⟨by rfl, rfl⟩) ?_ ?_
               rotate_left
               ·simp only [Act.put, List.setIfInBounds_toArray, List.set_cons_zero, List.set_cons_succ, i64_w, i32_w]
                rfl
               refine pure_ (i := 34) (N := some 94) (v := undef) (a' := ?_) v35 rfl rfl (any_of HT_.out (by kernel_rfl)) (fun _ _ _ h => h) (Or.inr ⟨by rfl, rfl⟩) ?_ ?_
               rotate_left
               ·simp only [Act.put, List.setIfInBounds_toArray, List.set_cons_zero, List.set_cons_succ, i64_w, i32_w]
                rfl
               refine pure_ (i := 35) (N := some 95) (v := undef) (a' := ?_) v36 rfl rfl (any_of HT_.out (by kernel_rfl)) (fun _ _ _ h => h) (Or.inr ⟨by rfl, rfl⟩) ?_ ?_
               rotate_left
               ·simp only [Act.put, List.setIfInBounds_toArray, List.set_cons_zero, List.set_cons_succ, i64_w, i32_w]
                rfl
               refine pure_ (i := 36) (N := some 96) (v := ?_) (a' := ?_) v37 rfl rfl (any_of HT_.out (by kernel_rfl)) (fun _ _ _ h => h) (Or.inl ⟨by rfl, ?_⟩) ?_ ?_
               rotate_left
               ·intro w'
                go_simp
                with_reducible rfl
               rotate_left
               ·simp only [Act.put, List.setIfInBounds_toArray, List.set_cons_zero, List.set_cons_succ, i64_w, i32_w]
                rfl
               refine pure_ (i := 37) (N := some 97) (v := ?_) (a' := ?_) v38 rfl rfl (any_of HT_.out (by kernel_rfl)) (fun _ _ _ h => h) (Or.inl ⟨by rfl, ?_⟩) ?_ ?_
               rotate_left
               ·intro w'
                go_simp
                with_reducible rfl
               rotate_left
               ·simp only [Act.put, List.setIfInBounds_toArray, List.set_cons_zero, List.set_cons_succ, i64_w, i32_w]
                rfl
               refine pure_ (i := 38) (N := some 98) (v := ?_) (a' := ?_) v39 rfl rfl (any_of HT_.out (by kernel_rfl)) (fun _ _ _ h => h) (Or.inl ⟨by rfl, ?_⟩) ?_ ?_
               rotate_left
               ·intro w'
                go_simp
                with_reducible rfl
               rotate_left
               ·simp only [Act.put, List.setIfInBounds_toArray, List.set_cons_zero, List.set_cons_succ, i64_w, i32_w]
                rfl
               refine pure_ (i := 40) (N := some 100) (v := ?_) (a' := ?_) v40 rfl rfl (any_of HT_.out (by kernel_rfl)) (fun _ _ _ h => h) (Or.inl ⟨by rfl, ?_⟩) ?_ ?_
               rotate_left
               ·intro w'
                go_simp
                with_reducible rfl
               rotate_left
               ·simp only [Act.put, List.setIfInBounds_toArray, List.set_cons_zero, List.set_cons_succ, i64_w, i32_w]
                rfl
               refine pure_ (i := 43) (N := some 103) (v := ?_) (a' := ?_) v41 rfl rfl (any_of HT_.out (by kernel_rfl)) (fun _ _ _ h => h) (Or.inl ⟨by rfl, ?_⟩) ?_ ?_
               rotate_left
               ·intro w'
                go_simp
                with_reducible rfl
               rotate_left
               ·simp only [Act.put, List.setIfInBounds_toArray, List.set_cons_zero, List.set_cons_succ, i64_w, i32_w]
                rfl
               refine take_ (i := 39) (N := some 99) (v := ?_) (a' := ?_) v42 rfl rfl (take_ofW HT_.out HW_.out (by kernel_rfl)) (fun _ _ _ h => h) (Or.inl ⟨by rfl, ?_⟩) hHeld ?_ ?_
               rotate_left
               ·rintro w' ⟨s0, s1, s2, s3, s4, s5, s6, s7, s8, s9⟩
                go_simp
                with_reducible rfl
               rotate_left
               ·simp only [Act.put, List.setIfInBounds_toArray, List.set_cons_zero, List.set_cons_succ, i64_w, i32_w]
                rfl
               refine take_ (i := 42) (N := some 102) (v := ?_) (a' := ?_) v43 rfl rfl (take_ofW HT_.out HW_.out (by kernel_rfl)) (fun _ _ _ h => h) (Or.inl ⟨by rfl, ?_⟩) hHeld ?_ ?_
               rotate_left
               ·rintro w' ⟨s0, s1, s2, s3, s4, s5, s6, s7, s8, s9⟩
                go_simp
                with_reducible rfl
               rotate_left
               ·simp only [Act.put, List.setIfInBounds_toArray, List.set_cons_zero, List.set_cons_succ, i64_w, i32_w]
                rfl
               refine one_ (i := 41) (N := some 101) v44 rfl rfl (one_of HT_.out (by kernel_rfl)) (by decide) (fun K hK => ?_)
               refine goes_ Tryd.func17 (by kernel_rfl) rfl #[.agg #[.int .u32 t169, .int .i64 t170], .int .u32 a1] (by rfl) rfl rfl (by (try simp only [List.map_toArray, List.map_cons, List.map_nil]); first | done | rfl) ?_
               with_reducible refine (addr_Has.calls t169 t170 a1 t198 _ A259.out).mono ?_
               rintro e w380 ⟨rfl, hb⟩
               refine ⟨_, rfl, ?_⟩
               have n0_ := Aside0.mk (blk_below (g := gb173) (o := .cells #[.int .u32 t169, .int .i64 t170] 24 (0, 0)) (by (with_reducible repeat first | apply bN | apply bD | apply bA); exact BK173.out) hb)
               have n1_ := Aside0.mk (blk_below (g := gb174) (o := .cells #[.int .u32 t171, .int .i64 t172] 24 (0, 0)) (by (with_reducible repeat first | apply bN | apply bD | apply bA); exact BK174.out) hb)
               have n2_ := Aside0.mk (blk_below (g := gb178) (o := .cells #[.int .u32 t175, .int .i64 t176] 24 (0, 0)) (by (with_reducible repeat first | apply bN | apply bD | apply bA); exact BK178.out) hb)
               have n3_ := Aside0.mk (blk_below (g := gb182) (o := .cells #[.int .u32 t179, .int .i64 t180] 24 (0, 0)) (by (with_reducible repeat first | apply bN | apply bD | apply bA); exact BK182.out) hb)
               have n4_ := Aside0.mk (blk_below (g := gb186) (o := .cells #[.int .u32 t183, .int .i64 t184] 24 (0, 0)) (by (with_reducible repeat first | apply bN | apply bD | apply bA); exact BK186.out) hb)
               have n5_ := Aside0.mk (blk_below (g := gb190) (o := .cells #[.int .u32 t187, .int .i64 t188] 24 (0, 0)) (by (with_reducible repeat first | apply bN | apply bD | apply bA); exact BK190.out) hb)
               have n6_ := Aside0.mk (below_step (by repeat (first | (with_reducible first | exact HB.out | apply lA | apply lN | apply lD | apply lS GE173.out | apply lS GE174.out | apply lS GE178.out | apply lS GE182.out | apply lS GE186.out | apply lS GE190.out) | exact HB.out)) hb)
               clear BK173
               clear BK174
               clear BK178
               clear BK182
               clear BK186
               clear BK190
               clear HB
               have BK173 := n0_
               have BK174 := n1_
               have BK178 := n2_
               have BK182 := n3_
               have BK186 := n4_
               have BK190 := n5_
               have HB := n6_
               clear n0_ n1_ n2_ n3_ n4_ n5_ n6_
               (try clear hb)
               (try clear hb2)
               (try clear hk)
               (try clear hi)
               refine hK.out _ _ ⟨(blk_cell BK186.out 0).trans rfl, (blk_cell BK186.out 1).trans rfl, (blk_cell BK173.out 0).trans rfl, (blk_cell BK173.out 1).trans rfl, (blk_cell BK190.out 0).trans rfl, (blk_cell BK190.out 1).trans rfl, (blk_cell BK178.out 0).trans rfl, (blk_cell BK178.out 1).trans rfl, (blk_cell BK182.out 0).trans rfl, (blk_cell BK182.out 1).trans rfl⟩ (fun hHeld => ?_)
               clear hK K
               refine norm_ (a' := ?_) ?_ ?_
               rotate_left
               ·show Act.put _ (some 101) _ = _
                simp only [Act.put, List.setIfInBounds_toArray, List.set_cons_zero, List.set_cons_succ, i64_w, i32_w]
                rfl
               refine one_ (i := 44) (N := some 104) v45 rfl rfl (one_of HT_.out (by kernel_rfl)) (by decide) (fun K hK => ?_)
               refine goes_ Tryd.func17 (by kernel_rfl) rfl #[.agg #[.int .u32 t175, .int .i64 t176], .int .u32 a1] (by rfl) rfl rfl (by (try simp only [List.map_toArray, List.map_cons, List.map_nil]); first | done | rfl) ?_
               with_reducible refine (addr_Has.calls t175 t176 a1 false _ A260.out).mono ?_
               rintro e w381 ⟨rfl, hb⟩
               refine ⟨_, rfl, ?_⟩
               have n0_ := Aside0.mk (blk_below (g := gb173) (o := .cells #[.int .u32 t169, .int .i64 t170] 24 (0, 0)) (by (with_reducible repeat first | apply bN | apply bD | apply bA); exact BK173.out) hb)
               have n1_ := Aside0.mk (blk_below (g := gb174) (o := .cells #[.int .u32 t171, .int .i64 t172] 24 (0, 0)) (by (with_reducible repeat first | apply bN | apply bD | apply bA); exact BK174.out) hb)
               have n2_ := Aside0.mk (blk_below (g := gb178) (o := .cells #[.int .u32 t175, .int .i64 t176] 24 (0, 0)) (by (with_reducible repeat first | apply bN | apply bD | apply bA); exact BK178.out) hb)
               have n3_ := Aside0.mk (blk_below (g := gb182) (o := .cells #[.int .u32 t179, .int .i64 t180] 24 (0, 0)) (by (with_reducible repeat first | apply bN | apply bD | apply bA); exact BK182.out) hb)
               have n4_ := Aside0.mk (blk_below (g := gb186) (o := .cells #[.int .u32 t183, .int .i64 t184] 24 (0, 0)) (by (with_reducible repeat first | apply bN | apply bD | apply bA); exact BK186.out) hb)
               have n5_ := Aside0.mk (blk_below (g := gb190) (o := .cells #[.int .u32 t187, .int .i64 t188] 24 (0, 0)) (by (with_reducible repeat first | apply bN | apply bD | apply bA); exact BK190.out) hb)
               have n6_ := Aside0.mk (below_step (by repeat (first | (with_reducible first | exact HB.out | apply lA | apply lN | apply lD | apply lS GE173.out | apply lS GE174.out | apply lS GE178.out | apply lS GE182.out | apply lS GE186.out | apply lS GE190.out) | exact HB.out)) hb)
               clear BK173
               clear BK174
               clear BK178
               clear BK182
               clear BK186
               clear BK190
               clear HB
               have BK173 := n0_
               have BK174 := n1_
               have BK178 := n2_
               have BK182 := n3_
               have BK186 := n4_
               have BK190 := n5_
               have HB := n6_
               clear n0_ n1_ n2_ n3_ n4_ n5_ n6_
               (try clear hb)
               (try clear hb2)
               (try clear hk)
               (try clear hi)
               refine hK.out _ _ ⟨(blk_cell BK186.out 0).trans rfl, (blk_cell BK186.out 1).trans rfl, (blk_cell BK173.out 0).trans rfl, (blk_cell BK173.out 1).trans rfl, (blk_cell BK190.out 0).trans rfl, (blk_cell BK190.out 1).trans rfl, (blk_cell BK178.out 0).trans rfl, (blk_cell BK178.out 1).trans rfl, (blk_cell BK182.out 0).trans rfl, (blk_cell BK182.out 1).trans rfl⟩ (fun hHeld => ?_)
               clear hK K
               refine norm_ (a' := ?_) ?_ ?_
               rotate_left
               ·show Act.put _ (some 104) _ = _
                simp only [Act.put, List.setIfInBounds_toArray, List.set_cons_zero, List.set_cons_succ, i64_w, i32_w]
                rfl
               refine pure_ (i := 45) (N := some 105) (v := ?_) (a' := ?_) v46 rfl rfl (any_of HT_.out (by kernel_rfl)) (fun _ _ _ h => h) (Or.inl ⟨by rfl, ?_⟩) ?_ ?_
               rotate_left
               ·intro w'
                go_simp
                with_reducible rfl
               rotate_left
               ·simp only [Act.put, List.setIfInBounds_toArray, List.set_cons_zero, List.set_cons_succ, i64_w, i32_w]
                rfl
               refine pure_ (i := 47) (N := some 107) (v := ?_) (a' := ?_) v54 rfl rfl (any_of HT_.out (by kernel_rfl)) (fun _ _ _ h => h) (Or.inl ⟨by rfl, ?_⟩) ?_ ?_
               rotate_left
               ·intro w'
                go_simp
                with_reducible rfl
               rotate_left
               ·simp only [Act.put, List.setIfInBounds_toArray, List.set_cons_zero, List.set_cons_succ, i64_w, i32_w]
                rfl
               refine take_ (i := 46) (N := some 106) (v := ?_) (a' := ?_) v48 rfl rfl (take_ofW HT_.out HW_.out (by kernel_rfl)) (fun _ _ _ h => h) (Or.inl ⟨by rfl, ?_⟩) hHeld ?_ ?_
               rotate_left
               ·rintro w' ⟨s0, s1, s2, s3, s4, s5, s6, s7, s8, s9⟩
                go_simp
                with_reducible rfl
               rotate_left
               ·simp only [Act.put, List.setIfInBounds_toArray, List.set_cons_zero, List.set_cons_succ, i64_w, i32_w]
                rfl
               refine one_ (i := 48) (N := some 108) v49 rfl rfl (one_of HT_.out (by kernel_rfl)) (by decide) (fun K hK => ?_)
               refine goes_ Tryd.func17 (by kernel_rfl) rfl #[.agg #[.int .u32 t179, .int .i64 t180], .int .u32 a1] (by rfl) rfl rfl (by (try simp only [List.map_toArray, List.map_cons, List.map_nil]); first | done | rfl) ?_
               with_reducible refine (addr_Has.calls t179 t180 a1 t200 _ A321.out).mono ?_
               rintro e w382 ⟨rfl, hb⟩
               refine ⟨_, rfl, ?_⟩
               have n0_ := Aside0.mk (blk_below (g := gb173) (o := .cells #[.int .u32 t169, .int .i64 t170] 24 (0, 0)) (by (with_reducible repeat first | apply bN | apply bD | apply bA); exact BK173.out) hb)
               have n1_ := Aside0.mk (blk_below (g := gb174) (o := .cells #[.int .u32 t171, .int .i64 t172] 24 (0, 0)) (by (with_reducible repeat first | apply bN | apply bD | apply bA); exact BK174.out) hb)
               have n2_ := Aside0.mk (blk_below (g := gb178) (o := .cells #[.int .u32 t175, .int .i64 t176] 24 (0, 0)) (by (with_reducible repeat first | apply bN | apply bD | apply bA); exact BK178.out) hb)
               have n3_ := Aside0.mk (blk_below (g := gb182) (o := .cells #[.int .u32 t179, .int .i64 t180] 24 (0, 0)) (by (with_reducible repeat first | apply bN | apply bD | apply bA); exact BK182.out) hb)
               have n4_ := Aside0.mk (blk_below (g := gb186) (o := .cells #[.int .u32 t183, .int .i64 t184] 24 (0, 0)) (by (with_reducible repeat first | apply bN | apply bD | apply bA); exact BK186.out) hb)
               have n5_ := Aside0.mk (blk_below (g := gb190) (o := .cells #[.int .u32 t187, .int .i64 t188] 24 (0, 0)) (by (with_reducible repeat first | apply bN | apply bD | apply bA); exact BK190.out) hb)
               have n6_ := Aside0.mk (below_step (by repeat (first | (with_reducible first | exact HB.out | apply lA | apply lN | apply lD | apply lS GE173.out | apply lS GE174.out | apply lS GE178.out | apply lS GE182.out | apply lS GE186.out | apply lS GE190.out) | exact HB.out)) hb)
               clear BK173
               clear BK174
               clear BK178
               clear BK182
               clear BK186
               clear BK190
               clear HB
               have BK173 := n0_
               have BK174 := n1_
               have BK178 := n2_
               have BK182 := n3_
               have BK186 := n4_
               have BK190 := n5_
               have HB := n6_
               clear n0_ n1_ n2_ n3_ n4_ n5_ n6_
               (try clear hb)
               (try clear hb2)
               (try clear hk)
               (try clear hi)
               refine hK.out _ _ ⟨(blk_cell BK186.out 0).trans rfl, (blk_cell BK186.out 1).trans rfl, (blk_cell BK173.out 0).trans rfl, (blk_cell BK173.out 1).trans rfl, (blk_cell BK190.out 0).trans rfl, (blk_cell BK190.out 1).trans rfl, (blk_cell BK178.out 0).trans rfl, (blk_cell BK178.out 1).trans rfl, (blk_cell BK182.out 0).trans rfl, (blk_cell BK182.out 1).trans rfl⟩ (fun hHeld => ?_)
               clear hK K
               refine norm_ (a' := ?_) ?_ ?_
               rotate_left
               ·show Act.put _ (some 108) _ = _
                simp only [Act.put, List.setIfInBounds_toArray, List.set_cons_zero, List.set_cons_succ, i64_w, i32_w]
                rfl
               refine pure_ (i := 49) (N := some 109) (v := ?_) (a' := ?_) v50 rfl rfl (any_of HT_.out (by kernel_rfl)) (fun _ _ _ h => h) (Or.inl ⟨by rfl, ?_⟩) ?_ ?_
               rotate_left
               ·intro w'
                go_simp
                with_reducible rfl
               rotate_left
               ·simp only [Act.put, List.setIfInBounds_toArray, List.set_cons_zero, List.set_cons_succ, i64_w, i32_w]
                rfl
               refine pure_ (i := 50) (N := some 110) (v := ?_) (a' := ?_) v51 rfl rfl (any_of HT_.out (by kernel_rfl)) (fun _ _ _ h => h) (Or.inl ⟨by rfl, ?_⟩) ?_ ?_
               rotate_left
               ·intro w'
                go_simp
                with_reducible rfl
               rotate_left
               ·simp only [Act.put, List.setIfInBounds_toArray, List.set_cons_zero, List.set_cons_succ, i64_w, i32_w]
                rfl
               refine pure_ (i := 51) (N := some 111) (v := ?_) (a' := ?_) v52 rfl rfl (any_of HT_.out (by kernel_rfl)) (fun _ _ _ h => h) (Or.inl ⟨by rfl, ?_⟩) ?_ ?_
               rotate_left
               ·intro w'
                go_simp
                with_reducible rfl
               rotate_left
               ·simp only [Act.put, List.setIfInBounds_toArray, List.set_cons_zero, List.set_cons_succ, i64_w, i32_w]
                rfl
               refine done_ (done_of HT_.out (by kernel_rfl)) ?_
               try go_wp2
               go_meet
               case rel => exact ⟨_, H', ⟨by have := HJ8.out; first | omega | exact Nat.le_refl _⟩, ⟨by (with_reducible repeat first | apply bN | apply bD | apply bA); exact BK173.out⟩, ⟨by (with_reducible repeat first | apply bN | apply bD | apply bA); exact BK174.out⟩, ⟨by (with_reducible repeat first | apply bN | apply bD | apply bA); exact BK178.out⟩, ⟨by (with_reducible repeat first | apply bN | apply bD | apply bA); exact BK182.out⟩, ⟨by repeat (first | (with_reducible first | exact HB.out | apply lA | apply lN | apply lD | apply lS GE173.out | apply lS GE174.out | apply lS GE178.out | apply lS GE182.out | apply lS GE186.out | apply lS GE190.out) | exact HB.out)⟩⟩
           ·replace c98 := Bool.eq_false_iff.mpr c98
            subst c98
            have H1 : (some false) = some r := by rw [if_neg (show ¬ (false = true) by decide)] at H; exact H
            clear H
            have H := H1
            clear H1
            exact absurd ((Option.some.inj H).trans hr) (by decide)
          ·replace c96 := Bool.eq_false_iff.mpr c96
           subst c96
           have H1 : (some false) = some r := by rw [if_neg (show ¬ (false = true) by decide)] at H; exact H
           clear H
           have H := H1
           clear H1
           exact absurd ((Option.some.inj H).trans hr) (by decide)
       ·replace c44 := Bool.eq_false_iff.mpr c44
        subst c44
        have H1 : (some false) = some r := by rw [if_neg (show ¬ (false = true) by decide)] at H; exact H
        clear H
        have H := H1
        clear H1
        exact absurd ((Option.some.inj H).trans hr) (by decide)
      ·replace c43 := Bool.eq_false_iff.mpr c43
       subst c43
       have H1 : (some false) = some r := by rw [if_neg (show ¬ (false = true) by decide)] at H; exact H
       clear H
       have H := H1
       clear H1
       exact absurd ((Option.some.inj H).trans hr) (by decide)
     ·replace c40 := Bool.eq_false_iff.mpr c40
      subst c40
      have H1 : (signpostlaw1_AddrRules.j1 kj8 t169 t170 t171 t172) = some r := by rw [if_neg (show ¬ (false = true) by decide)] at H; exact H
      clear H
      have H := H1
      clear H1
      have H' := Aside0.mk H
      clear H
      go_wp2
      go_meet
      case rel => exact ⟨_, H', ⟨by have := HJ8.out; first | omega | exact Nat.le_refl _⟩, ⟨by (with_reducible repeat first | apply bN | apply bD | apply bA); exact BK173.out⟩, ⟨by (with_reducible repeat first | apply bN | apply bD | apply bA); exact BK174.out⟩, ⟨by (with_reducible repeat first | apply bN | apply bD | apply bA); exact BK178.out⟩, ⟨by (with_reducible repeat first | apply bN | apply bD | apply bA); exact BK182.out⟩, ⟨by repeat (first | (with_reducible first | exact HB.out | apply lA | apply lN | apply lD | apply lS GE173.out | apply lS GE174.out | apply lS GE178.out | apply lS GE182.out) | exact HB.out)⟩⟩
    case rest =>
     clear HC39
     try clear c2
     try clear p2
     try clear c4
     try clear c21
     try clear c40
     try clear c43
     try clear c45
     try clear c46
     try clear c47
     try clear c458
     try clear c459
     try clear c460
     try clear c464
     try clear c465
     try clear c466
     try clear c467
     try clear c469
     try clear c470
     try clear c474
     try clear c475
     try clear c476
     try clear c477
     try clear c478
     try clear hcz461_0
     try clear hcz461_1
     try clear hcz468_0
     try clear hcz468_1
     try clear hcz471_0
     try clear hcz471_1
     try clear hcz479_0
     try clear hcz479_1
     try clear hfz461_0
     try clear hfz461_1
     try clear hfz468_0
     try clear hfz468_1
     try clear hfz471_0
     try clear hfz471_1
     try clear hfz479_0
     try clear hfz479_1
     obtain ⟨kq, HA, HJ38, BK173, BK174, BK178, BK182, HB⟩ := hcut
     cases kq with
     | zero => exact absurd HA.out (by simp [signpostlaw1_AddrRules.j1])
     | succ kj38 =>
      have H := HA.out
      clear HA
      simp only [signpostlaw1_AddrRules.j1] at H
      replace H := Option.bind_eq_some_iff.mp H
      obtain ⟨⟨t201, t202⟩, A4820, H⟩ := H
      replace H : ((addr_Covers.f t201 t202 t169 t170).bind fun t204 => (if t204 = true then ((addr_Covers.f t201 t202 t171 t172).bind fun t205 => (if t205 = true then ((addr_Meet.f kj38 t171 t172 t169 t170).bind fun bt206 => (if (!(t201 == bt206.1) || (!(t202 == bt206.2))) = true then (signpostlaw1_AddrRules.j2 kj38 true t169 t170 t171 t172 t201 t202) else ((addr_Covers.f t169 t170 t171 t172).bind fun t208 => (signpostlaw1_AddrRules.j2 kj38 (t208 != (t201 == t169 && (t202 == t170))) t169 t170 t171 t172 t201 t202)))) else (signpostlaw1_AddrRules.j2 kj38 true t169 t170 t171 t172 t201 t202))) else (signpostlaw1_AddrRules.j2 kj38 true t169 t170 t171 t172 t201 t202))) = some r := H
      have A482 := Aside0.mk A4820
      clear A4820
      have HC483 := Aside0.mk H
      clear H
      have hnb484 := NB173_174.out
      have hnc484 := NB174_173.out
      have hnb485 := NB173_178.out
      have hnc485 := NB178_173.out
      have hnb486 := NB173_182.out
      have hnc486 := NB182_173.out
      have hcz487_0 : wc.cell? ⟨gb173, 0, none⟩ = some (.int .u32 t169) := (blk_cell BK173.out 0).trans rfl
      have hcz487_1 : wc.cell? ⟨gb173, 1, none⟩ = some (.int .i64 t170) := (blk_cell BK173.out 1).trans rfl
      have hfz487_0 := blk_frozen BK173.out 0
      have hfz487_1 := blk_frozen BK173.out 1
      have hnb488 := NB174_178.out
      have hnc488 := NB178_174.out
      have hnb489 := NB174_182.out
      have hnc489 := NB182_174.out
      have hcz490_0 : wc.cell? ⟨gb174, 0, none⟩ = some (.int .u32 t171) := (blk_cell BK174.out 0).trans rfl
      have hcz490_1 : wc.cell? ⟨gb174, 1, none⟩ = some (.int .i64 t172) := (blk_cell BK174.out 1).trans rfl
      have hfz490_0 := blk_frozen BK174.out 0
      have hfz490_1 := blk_frozen BK174.out 1
      go_upto_region 12 with (first | ((with_reducible refine gate_callee (f := 20) rfl ?_); refine goesL_ (some 114) rfl rfl Tryd.func20 (by kernel_rfl) rfl #[.agg #[.int .u32 t169, .int .i64 t170], .agg #[.int .u32 t171, .int .i64 t172]] rfl (by (try simp only [List.map_toArray, List.map_cons, List.map_nil]); first | done | rfl) ?_; (with_reducible refine (addr_Meet.calls kj38 t169 t170 t171 t172 t201 t202 _ A482.out).mono ?_); rintro e w491 ⟨rfl, hb⟩; refine ⟨_, rfl, ?_⟩; have n0_ := Aside0.mk (blk_below (g := gb173) (o := .cells #[.int .u32 t169, .int .i64 t170] 24 (0, 0)) (by (with_reducible repeat first | apply bN | apply bD | apply bA); exact BK173.out) hb); have n1_ := Aside0.mk (blk_below (g := gb174) (o := .cells #[.int .u32 t171, .int .i64 t172] 24 (0, 0)) (by (with_reducible repeat first | apply bN | apply bD | apply bA); exact BK174.out) hb); have n2_ := Aside0.mk (blk_below (g := gb178) (o := .cells #[.int .u32 t175, .int .i64 t176] 24 (0, 0)) (by (with_reducible repeat first | apply bN | apply bD | apply bA); exact BK178.out) hb); have n3_ := Aside0.mk (blk_below (g := gb182) (o := .cells #[.int .u32 t179, .int .i64 t180] 24 (0, 0)) (by (with_reducible repeat first | apply bN | apply bD | apply bA); exact BK182.out) hb); have n4_ := Aside0.mk (below_step (by repeat (first | (with_reducible first | exact HB.out | apply lA | apply lN | apply lD | apply lS GE173.out | apply lS GE174.out | apply lS GE178.out | apply lS GE182.out) | exact HB.out)) hb); clear BK173; clear BK174; clear BK178; clear BK182; clear HB; have BK173 := n0_; have BK174 := n1_; have BK178 := n2_; have BK182 := n3_; have HB := n4_; clear n0_ n1_ n2_ n3_ n4_; (try clear hb)) | ((with_reducible refine gate_dst (N := 19) rfl ?_); refine box_event ?hg (N := 19) ?hd (cs := #[.int .u32 0, .int .i64 0]) (t := 24) ?hr ?_; (case hd => rfl); (case hg => rfl); (case hr => first | (go_simp; done) | (go_simp; rfl)); intro gb203 hg w492 hbox hb; have n0_ := Aside0.mk (blk_below (g := gb173) (o := .cells #[.int .u32 t169, .int .i64 t170] 24 (0, 0)) (by (with_reducible repeat first | apply bN | apply bD | apply bA); exact BK173.out) hb); have n1_ := Aside0.mk (blk_below (g := gb174) (o := .cells #[.int .u32 t171, .int .i64 t172] 24 (0, 0)) (by (with_reducible repeat first | apply bN | apply bD | apply bA); exact BK174.out) hb); have n2_ := Aside0.mk (blk_below (g := gb178) (o := .cells #[.int .u32 t175, .int .i64 t176] 24 (0, 0)) (by (with_reducible repeat first | apply bN | apply bD | apply bA); exact BK178.out) hb); have n3_ := Aside0.mk (blk_below (g := gb182) (o := .cells #[.int .u32 t179, .int .i64 t180] 24 (0, 0)) (by (with_reducible repeat first | apply bN | apply bD | apply bA); exact BK182.out) hb); have n4_ := Aside0.mk (below_step (by repeat (first | (with_reducible first | exact HB.out | apply lA | apply lN | apply lD | apply lS GE173.out | apply lS GE174.out | apply lS GE178.out | apply lS GE182.out) | exact HB.out)) hb); have n5_ := Aside0.mk (hbox); have n6_ := Aside0.mk ((by rw [hg]; exact (below_size (by repeat (first | (with_reducible first | exact HB.out | apply lA | apply lN | apply lD | apply lS GE173.out | apply lS GE174.out | apply lS GE178.out | apply lS GE182.out) | exact HB.out))) : w.heap.size ≤ gb203)); have n7_ := Aside0.mk ((by rw [hg]; exact (below_size (by repeat (first | (with_reducible first | exact HB.out | apply lA | apply lN | apply lD | apply lS GE173.out | apply lS GE174.out | apply lS GE178.out | apply lS GE182.out) | exact HB.out))) : w.heap.size ≤ gb203)); have n8_ := Aside0.mk ((by rw [hg]; exact Nat.ne_of_lt (blk_lt (g := gb173) (o := .cells #[.int .u32 t169, .int .i64 t170] 24 (0, 0)) (by (with_reducible repeat first | apply bN | apply bD | apply bA); exact BK173.out)) : gb173 ≠ gb203)); have n9_ := Aside0.mk ((by rw [hg]; exact Nat.ne_of_gt (blk_lt (g := gb173) (o := .cells #[.int .u32 t169, .int .i64 t170] 24 (0, 0)) (by (with_reducible repeat first | apply bN | apply bD | apply bA); exact BK173.out)) : gb203 ≠ gb173)); have n10_ := Aside0.mk ((by rw [hg]; exact Nat.ne_of_lt (blk_lt (g := gb174) (o := .cells #[.int .u32 t171, .int .i64 t172] 24 (0, 0)) (by (with_reducible repeat first | apply bN | apply bD | apply bA); exact BK174.out)) : gb174 ≠ gb203)); have n11_ := Aside0.mk ((by rw [hg]; exact Nat.ne_of_gt (blk_lt (g := gb174) (o := .cells #[.int .u32 t171, .int .i64 t172] 24 (0, 0)) (by (with_reducible repeat first | apply bN | apply bD | apply bA); exact BK174.out)) : gb203 ≠ gb174)); have n12_ := Aside0.mk ((by rw [hg]; exact Nat.ne_of_lt (blk_lt (g := gb178) (o := .cells #[.int .u32 t175, .int .i64 t176] 24 (0, 0)) (by (with_reducible repeat first | apply bN | apply bD | apply bA); exact BK178.out)) : gb178 ≠ gb203)); have n13_ := Aside0.mk ((by rw [hg]; exact Nat.ne_of_gt (blk_lt (g := gb178) (o := .cells #[.int .u32 t175, .int .i64 t176] 24 (0, 0)) (by (with_reducible repeat first | apply bN | apply bD | apply bA); exact BK178.out)) : gb203 ≠ gb178)); have n14_ := Aside0.mk ((by rw [hg]; exact Nat.ne_of_lt (blk_lt (g := gb182) (o := .cells #[.int .u32 t179, .int .i64 t180] 24 (0, 0)) (by (with_reducible repeat first | apply bN | apply bD | apply bA); exact BK182.out)) : gb182 ≠ gb203)); have n15_ := Aside0.mk ((by rw [hg]; exact Nat.ne_of_gt (blk_lt (g := gb182) (o := .cells #[.int .u32 t179, .int .i64 t180] 24 (0, 0)) (by (with_reducible repeat first | apply bN | apply bD | apply bA); exact BK182.out)) : gb203 ≠ gb182)); clear BK173; clear BK174; clear BK178; clear BK182; clear HB; have BK173 := n0_; have BK174 := n1_; have BK178 := n2_; have BK182 := n3_; have HB := n4_; have BK203 := n5_; have GW203 := n6_; have GE203 := n7_; have NB173_203 := n8_; have NB203_173 := n9_; have NB174_203 := n10_; have NB203_174 := n11_; have NB178_203 := n12_; have NB203_178 := n13_; have NB182_203 := n14_; have NB203_182 := n15_; clear n0_ n1_ n2_ n3_ n4_ n5_ n6_ n7_ n8_ n9_ n10_ n11_ n12_ n13_ n14_ n15_; clear hb hbox hg; have hnb493 := NB203_173.out; have hnc493 := NB173_203.out; have hnb494 := NB203_174.out; have hnc494 := NB174_203.out; have hnb495 := NB203_178.out; have hnc495 := NB178_203.out; have hnb496 := NB203_182.out; have hnc496 := NB182_203.out; have hcz497_0 : w492.cell? ⟨gb203, 0, none⟩ = some (.int .u32 0) := (blk_cell BK203.out 0).trans rfl; have hcz497_1 : w492.cell? ⟨gb203, 1, none⟩ = some (.int .i64 0) := (blk_cell BK203.out 1).trans rfl; have hfz497_0 := blk_frozen BK203.out 0; have hfz497_1 := blk_frozen BK203.out 1))
      (try simp only [Act.put, List.setIfInBounds_toArray, List.set_cons_zero, List.set_cons_succ])
      go_cut [140] (fun v140 wc => ∃ (kq : Nat) (x140_482 : Bool), v140 = .bool x140_482 ∧ Aside0 (signpostlaw1_AddrRules.j2 kq x140_482 t169 t170 t171 t172 t201 t202 = some r) ∧ Aside0 (kq ≤ kj38) ∧ Aside0 (wc.heap[gb173]? = some (.cells #[.int .u32 t169, .int .i64 t170] 24 (0, 0))) ∧ Aside0 (wc.heap[gb174]? = some (.cells #[.int .u32 t171, .int .i64 t172] 24 (0, 0))) ∧ Aside0 (wc.heap[gb178]? = some (.cells #[.int .u32 t175, .int .i64 t176] 24 (0, 0))) ∧ Aside0 (wc.heap[gb182]? = some (.cells #[.int .u32 t179, .int .i64 t180] 24 (0, 0))) ∧ Aside0 (wc.heap[gb203]? = some (.cells #[.int .u32 t201, .int .i64 t202] 24 (0, 0))) ∧ Aside0 (Below w.heap.size w wc))
      case first =>
       have H := HC483.out
       clear HC483
       replace H := Option.bind_eq_some_iff.mp H
       obtain ⟨t204, A4980, H⟩ := H
       replace H : (if t204 = true then ((addr_Covers.f t201 t202 t171 t172).bind fun t205 => (if t205 = true then ((addr_Meet.f kj38 t171 t172 t169 t170).bind fun bt206 => (if (!(t201 == bt206.1) || (!(t202 == bt206.2))) = true then (signpostlaw1_AddrRules.j2 kj38 true t169 t170 t171 t172 t201 t202) else ((addr_Covers.f t169 t170 t171 t172).bind fun t208 => (signpostlaw1_AddrRules.j2 kj38 (t208 != (t201 == t169 && (t202 == t170))) t169 t170 t171 t172 t201 t202)))) else (signpostlaw1_AddrRules.j2 kj38 true t169 t170 t171 t172 t201 t202))) else (signpostlaw1_AddrRules.j2 kj38 true t169 t170 t171 t172 t201 t202)) = some r := H
       have A498 := Aside0.mk A4980
       clear A4980
       by_cases c499 : t204 = true
       ·subst c499
        have H1 : ((addr_Covers.f t201 t202 t171 t172).bind fun t205 => (if t205 = true then ((addr_Meet.f kj38 t171 t172 t169 t170).bind fun bt206 => (if (!(t201 == bt206.1) || (!(t202 == bt206.2))) = true then (signpostlaw1_AddrRules.j2 kj38 true t169 t170 t171 t172 t201 t202) else ((addr_Covers.f t169 t170 t171 t172).bind fun t208 => (signpostlaw1_AddrRules.j2 kj38 (t208 != (t201 == t169 && (t202 == t170))) t169 t170 t171 t172 t201 t202)))) else (signpostlaw1_AddrRules.j2 kj38 true t169 t170 t171 t172 t201 t202))) = some r := by rw [if_pos rfl] at H; exact H
        clear H
        have H := H1
        clear H1
        replace H := Option.bind_eq_some_iff.mp H
        obtain ⟨t205, A5000, H⟩ := H
        replace H : (if t205 = true then ((addr_Meet.f kj38 t171 t172 t169 t170).bind fun bt206 => (if (!(t201 == bt206.1) || (!(t202 == bt206.2))) = true then (signpostlaw1_AddrRules.j2 kj38 true t169 t170 t171 t172 t201 t202) else ((addr_Covers.f t169 t170 t171 t172).bind fun t208 => (signpostlaw1_AddrRules.j2 kj38 (t208 != (t201 == t169 && (t202 == t170))) t169 t170 t171 t172 t201 t202)))) else (signpostlaw1_AddrRules.j2 kj38 true t169 t170 t171 t172 t201 t202)) = some r := H
        have A500 := Aside0.mk A5000
        clear A5000
        by_cases c501 : t205 = true
        ·subst c501
         have H1 : ((addr_Meet.f kj38 t171 t172 t169 t170).bind fun bt206 => (if (!(t201 == bt206.1) || (!(t202 == bt206.2))) = true then (signpostlaw1_AddrRules.j2 kj38 true t169 t170 t171 t172 t201 t202) else ((addr_Covers.f t169 t170 t171 t172).bind fun t208 => (signpostlaw1_AddrRules.j2 kj38 (t208 != (t201 == t169 && (t202 == t170))) t169 t170 t171 t172 t201 t202)))) = some r := by rw [if_pos rfl] at H; exact H
         clear H
         have H := H1
         clear H1
         replace H := Option.bind_eq_some_iff.mp H
         obtain ⟨⟨t206, t207⟩, A5020, H⟩ := H
         replace H : (if (!(t201 == t206) || (!(t202 == t207))) = true then (signpostlaw1_AddrRules.j2 kj38 true t169 t170 t171 t172 t201 t202) else ((addr_Covers.f t169 t170 t171 t172).bind fun t208 => (signpostlaw1_AddrRules.j2 kj38 (t208 != (t201 == t169 && (t202 == t170))) t169 t170 t171 t172 t201 t202))) = some r := H
         have A502 := Aside0.mk A5020
         clear A5020
         by_cases c503 : (!(t201 == t206) || (!(t202 == t207))) = true
         ·rw [if_pos c503] at H
          exact absurd (H.trans (congrArg some hr)) (signpostlaw1_AddrRules.j2_dead _ _ _ _ _ _ _)
         ·rw [if_neg c503] at H
          have c503b0 : (!(t201 == t206) || (!(t202 == t207))) = false := by simpa using c503
          clear c503
          (first | rw [c503b0] | (simp only [i64_w, i32_w]; rw [c503b0]) | skip)
          replace H := Option.bind_eq_some_iff.mp H
          obtain ⟨t208, A5090, H⟩ := H
          replace H : (signpostlaw1_AddrRules.j2 kj38 (t208 != (t201 == t169 && (t202 == t170))) t169 t170 t171 t172 t201 t202) = some r := H
          have A509 := Aside0.mk A5090
          clear A5090
          have H' := Aside0.mk H
          clear H
          try go_wp2
          have n0_ : Aside0 (((w492.setCell ⟨gb203, 0, none⟩ (.int .u32 t201)).setCell ⟨gb203, 1, none⟩ (.int .i64 t202)).heap[gb173]? = some (.cells #[.int .u32 t169, .int .i64 t170] 24 (0, 0))) := ⟨by (with_reducible repeat first | apply bN | apply bD | apply bA); refine blk_far ?_ NB173_203.out _; (with_reducible repeat first | apply bN | apply bD | apply bA); refine blk_far ?_ NB173_203.out _; (with_reducible repeat first | apply bN | apply bD | apply bA); exact BK173.out⟩
          have n1_ : Aside0 (((w492.setCell ⟨gb203, 0, none⟩ (.int .u32 t201)).setCell ⟨gb203, 1, none⟩ (.int .i64 t202)).heap[gb174]? = some (.cells #[.int .u32 t171, .int .i64 t172] 24 (0, 0))) := ⟨by (with_reducible repeat first | apply bN | apply bD | apply bA); refine blk_far ?_ NB174_203.out _; (with_reducible repeat first | apply bN | apply bD | apply bA); refine blk_far ?_ NB174_203.out _; (with_reducible repeat first | apply bN | apply bD | apply bA); exact BK174.out⟩
          have n2_ : Aside0 (((w492.setCell ⟨gb203, 0, none⟩ (.int .u32 t201)).setCell ⟨gb203, 1, none⟩ (.int .i64 t202)).heap[gb178]? = some (.cells #[.int .u32 t175, .int .i64 t176] 24 (0, 0))) := ⟨by (with_reducible repeat first | apply bN | apply bD | apply bA); refine blk_far ?_ NB178_203.out _; (with_reducible repeat first | apply bN | apply bD | apply bA); refine blk_far ?_ NB178_203.out _; (with_reducible repeat first | apply bN | apply bD | apply bA); exact BK178.out⟩
          have n3_ : Aside0 (((w492.setCell ⟨gb203, 0, none⟩ (.int .u32 t201)).setCell ⟨gb203, 1, none⟩ (.int .i64 t202)).heap[gb182]? = some (.cells #[.int .u32 t179, .int .i64 t180] 24 (0, 0))) := ⟨by (with_reducible repeat first | apply bN | apply bD | apply bA); refine blk_far ?_ NB182_203.out _; (with_reducible repeat first | apply bN | apply bD | apply bA); refine blk_far ?_ NB182_203.out _; (with_reducible repeat first | apply bN | apply bD | apply bA); exact BK182.out⟩
          have n4_ : Aside0 (((w492.setCell ⟨gb203, 0, none⟩ (.int .u32 t201)).setCell ⟨gb203, 1, none⟩ (.int .i64 t202)).heap[gb203]? = some (.cells #[.int .u32 t201, .int .i64 t202] 24 (0, 0))) := ⟨by (with_reducible repeat first | apply bN | apply bD | apply bA); refine blk_put (cs := #[.int .u32 t201, .int .i64 0]) ?_ 1 _ rfl; (with_reducible repeat first | apply bN | apply bD | apply bA); refine blk_put (cs := #[.int .u32 0, .int .i64 0]) ?_ 0 _ rfl; (with_reducible repeat first | apply bN | apply bD | apply bA); exact BK203.out⟩
          have n5_ : Aside0 (Below w.heap.size w ((w492.setCell ⟨gb203, 0, none⟩ (.int .u32 t201)).setCell ⟨gb203, 1, none⟩ (.int .i64 t202))) := ⟨by repeat (first | (with_reducible first | exact HB.out | apply lA | apply lN | apply lD | apply lS GE173.out | apply lS GE174.out | apply lS GE178.out | apply lS GE182.out | apply lS GE203.out) | exact HB.out)⟩
          (try clear BK173)
          (try clear BK174)
          (try clear BK178)
          (try clear BK182)
          (try clear BK203)
          (try clear HB)
          generalize ((w492.setCell ⟨gb203, 0, none⟩ (.int .u32 t201)).setCell ⟨gb203, 1, none⟩ (.int .i64 t202)) = w510 at n0_ n1_ n2_ n3_ n4_ n5_ ⊢
          have BK173 := n0_
          have BK174 := n1_
          have BK178 := n2_
          have BK182 := n3_
          have BK203 := n4_
          have HB := n5_
          clear n0_ n1_ n2_ n3_ n4_ n5_
          have n0_ := Aside0.mk (blk_drew BK173.out)
          have n1_ := Aside0.mk (blk_drew BK174.out)
          have n2_ := Aside0.mk (blk_drew BK178.out)
          have n3_ := Aside0.mk (blk_drew BK182.out)
          have n4_ := Aside0.mk (blk_drew BK203.out)
          have n5_ := Aside0.mk (below_drew1 HB.out)
          clear BK173
          clear BK174
          clear BK178
          clear BK182
          clear BK203
          clear HB
          have BK173 := n0_
          have BK174 := n1_
          have BK178 := n2_
          have BK182 := n3_
          have BK203 := n4_
          have HB := n5_
          clear n0_ n1_ n2_ n3_ n4_ n5_
          refine start_ (n := 26) (S := fun w' => w'.cell? ⟨gb203, 0, none⟩ = some (.int .u32 t201) ∧ w'.cell? ⟨gb203, 1, none⟩ = some (.int .i64 t202) ∧ w'.cell? ⟨gb173, 0, none⟩ = some (.int .u32 t169) ∧ w'.cell? ⟨gb173, 1, none⟩ = some (.int .i64 t170) ∧ w'.cell? ⟨gb174, 0, none⟩ = some (.int .u32 t171) ∧ w'.cell? ⟨gb174, 1, none⟩ = some (.int .i64 t172)) (ds := []) v55 (by kernel_rfl) rfl rfl ⟨(blk_cell BK203.out 0).trans rfl, (blk_cell BK203.out 1).trans rfl, (blk_cell BK173.out 0).trans rfl, (blk_cell BK173.out 1).trans rfl, (blk_cell BK174.out 0).trans rfl, (blk_cell BK174.out 1).trans rfl⟩ (fun hHeld => ?_); refine with_tabW signpostlaw1_AddrRules.tab12 signpostlaw1_AddrRules.bits12 (fun HT_ HW_ => ?_)
          generalize w510.drew = w511 at BK173 BK174 BK178 BK182 BK203 HB hHeld ⊢
          refine take_ (i := 0) (N := some 115) (v := ?_) (a' := ?_) v56 rfl rfl (take_ofW HT_.out HW_.out (by kernel_rfl)) (fun _ _ _ h => h) (Or.inl ⟨by rfl, ?_⟩) hHeld ?_ ?_
          rotate_left
          ·rintro w' ⟨s0, s1, s2, s3, s4, s5⟩
           go_simp
           with_reducible rfl
          rotate_left
          ·simp only [Act.put, List.setIfInBounds_toArray, List.set_cons_zero, List.set_cons_succ, i64_w, i32_w]
           rfl
          refine take_ (i := 1) (N := some 116) (v := ?_) (a' := ?_) v57 rfl rfl (take_ofW HT_.out HW_.out (by kernel_rfl)) (fun _ _ _ h => h) (Or.inl ⟨by rfl, ?_⟩) hHeld ?_ ?_
          rotate_left
          ·rintro w' ⟨s0, s1, s2, s3, s4, s5⟩
           go_simp
           with_reducible rfl
          rotate_left
          ·simp only [Act.put, List.setIfInBounds_toArray, List.set_cons_zero, List.set_cons_succ, i64_w, i32_w]
           rfl
          refine one_ (i := 2) (N := some 117) v58 rfl rfl (one_of HT_.out (by kernel_rfl)) (by decide) (fun K hK => ?_)
          refine goes_ Tryd.func19 (by kernel_rfl) rfl #[.agg #[.int .u32 t201, .int .i64 t202], .agg #[.int .u32 t169, .int .i64 t170]] (by rfl) rfl rfl (by (try simp only [List.map_toArray, List.map_cons, List.map_nil]); first | done | rfl) ?_
          with_reducible refine (addr_Covers.calls t201 t202 t169 t170 true _ A498.out).mono ?_
          rintro e w512 ⟨rfl, hb⟩
          refine ⟨_, rfl, ?_⟩
          have n0_ := Aside0.mk (blk_below (g := gb173) (o := .cells #[.int .u32 t169, .int .i64 t170] 24 (0, 0)) (by (with_reducible repeat first | apply bN | apply bD | apply bA); exact BK173.out) hb)
          have n1_ := Aside0.mk (blk_below (g := gb174) (o := .cells #[.int .u32 t171, .int .i64 t172] 24 (0, 0)) (by (with_reducible repeat first | apply bN | apply bD | apply bA); exact BK174.out) hb)
          have n2_ := Aside0.mk (blk_below (g := gb178) (o := .cells #[.int .u32 t175, .int .i64 t176] 24 (0, 0)) (by (with_reducible repeat first | apply bN | apply bD | apply bA); exact BK178.out) hb)
          have n3_ := Aside0.mk (blk_below (g := gb182) (o := .cells #[.int .u32 t179, .int .i64 t180] 24 (0, 0)) (by (with_reducible repeat first | apply bN | apply bD | apply bA); exact BK182.out) hb)
          have n4_ := Aside0.mk (blk_below (g := gb203) (o := .cells #[.int .u32 t201, .int .i64 t202] 24 (0, 0)) (by (with_reducible repeat first | apply bN | apply bD | apply bA); exact BK203.out) hb)
          have n5_ := Aside0.mk (below_step (by repeat (first | (with_reducible first | exact HB.out | apply lA | apply lN | apply lD | apply lS GE173.out | apply lS GE174.out | apply lS GE178.out | apply lS GE182.out | apply lS GE203.out) | exact HB.out)) hb)
          clear BK173
          clear BK174
          clear BK178
          clear BK182
          clear BK203
          clear HB
          have BK173 := n0_
          have BK174 := n1_
          have BK178 := n2_
          have BK182 := n3_
          have BK203 := n4_
          have HB := n5_
          clear n0_ n1_ n2_ n3_ n4_ n5_
          (try clear hb)
          (try clear hb2)
          (try clear hk)
          (try clear hi)
          refine hK.out _ _ ⟨(blk_cell BK203.out 0).trans rfl, (blk_cell BK203.out 1).trans rfl, (blk_cell BK173.out 0).trans rfl, (blk_cell BK173.out 1).trans rfl, (blk_cell BK174.out 0).trans rfl, (blk_cell BK174.out 1).trans rfl⟩ (fun hHeld => ?_)
          clear hK K
          refine norm_ (a' := ?_) ?_ ?_
          rotate_left
          ·show Act.put _ (some 117) _ = _
           simp only [Act.put, List.setIfInBounds_toArray, List.set_cons_zero, List.set_cons_succ, i64_w, i32_w]
           rfl
          refine pure_ (i := 3) (N := some 118) (v := ?_) (a' := ?_) v59 rfl rfl (any_of HT_.out (by kernel_rfl)) (fun _ _ _ h => h) (Or.inl ⟨by rfl, ?_⟩) ?_ ?_
          rotate_left
          ·intro w'
           go_simp
           with_reducible rfl
          rotate_left
          ·simp only [Act.put, List.setIfInBounds_toArray, List.set_cons_zero, List.set_cons_succ, i64_w, i32_w]
           rfl
          refine pure_ (i := 4) (N := some 119) (v := ?_) (a' := ?_) v60 rfl rfl (any_of HT_.out (by kernel_rfl)) (fun _ _ _ h => h) (Or.inl ⟨by rfl, ?_⟩) ?_ ?_
          rotate_left
          ·intro w'
           go_simp
           with_reducible rfl
          rotate_left
          ·simp only [Act.put, List.setIfInBounds_toArray, List.set_cons_zero, List.set_cons_succ, i64_w, i32_w]
           rfl
          refine take_ (i := 5) (N := some 120) (v := ?_) (a' := ?_) v61 rfl rfl (take_ofW HT_.out HW_.out (by kernel_rfl)) (fun _ _ _ h => h) (Or.inl ⟨by rfl, ?_⟩) hHeld ?_ ?_
          rotate_left
          ·rintro w' ⟨s0, s1, s2, s3, s4, s5⟩
           go_simp
           with_reducible rfl
          rotate_left
          ·simp only [Act.put, List.setIfInBounds_toArray, List.set_cons_zero, List.set_cons_succ, i64_w, i32_w]
           rfl
          refine take_ (i := 6) (N := some 121) (v := ?_) (a' := ?_) v62 rfl rfl (take_ofW HT_.out HW_.out (by kernel_rfl)) (fun _ _ _ h => h) (Or.inl ⟨by rfl, ?_⟩) hHeld ?_ ?_
          rotate_left
          ·rintro w' ⟨s0, s1, s2, s3, s4, s5⟩
           go_simp
           with_reducible rfl
          rotate_left
          ·simp only [Act.put, List.setIfInBounds_toArray, List.set_cons_zero, List.set_cons_succ, i64_w, i32_w]
           rfl
          refine one_ (i := 7) (N := some 122) v63 rfl rfl (one_of HT_.out (by kernel_rfl)) (by decide) (fun K hK => ?_)
          refine goes_ Tryd.func19 (by kernel_rfl) rfl #[.agg #[.int .u32 t201, .int .i64 t202], .agg #[.int .u32 t171, .int .i64 t172]] (by rfl) rfl rfl (by (try simp only [List.map_toArray, List.map_cons, List.map_nil]); first | done | rfl) ?_
          with_reducible refine (addr_Covers.calls t201 t202 t171 t172 true _ A500.out).mono ?_
          rintro e w513 ⟨rfl, hb⟩
          refine ⟨_, rfl, ?_⟩
          have n0_ := Aside0.mk (blk_below (g := gb173) (o := .cells #[.int .u32 t169, .int .i64 t170] 24 (0, 0)) (by (with_reducible repeat first | apply bN | apply bD | apply bA); exact BK173.out) hb)
          have n1_ := Aside0.mk (blk_below (g := gb174) (o := .cells #[.int .u32 t171, .int .i64 t172] 24 (0, 0)) (by (with_reducible repeat first | apply bN | apply bD | apply bA); exact BK174.out) hb)
          have n2_ := Aside0.mk (blk_below (g := gb178) (o := .cells #[.int .u32 t175, .int .i64 t176] 24 (0, 0)) (by (with_reducible repeat first | apply bN | apply bD | apply bA); exact BK178.out) hb)
          have n3_ := Aside0.mk (blk_below (g := gb182) (o := .cells #[.int .u32 t179, .int .i64 t180] 24 (0, 0)) (by (with_reducible repeat first | apply bN | apply bD | apply bA); exact BK182.out) hb)
          have n4_ := Aside0.mk (blk_below (g := gb203) (o := .cells #[.int .u32 t201, .int .i64 t202] 24 (0, 0)) (by (with_reducible repeat first | apply bN | apply bD | apply bA); exact BK203.out) hb)
          have n5_ := Aside0.mk (below_step (by repeat (first | (with_reducible first | exact HB.out | apply lA | apply lN | apply lD | apply lS GE173.out | apply lS GE174.out | apply lS GE178.out | apply lS GE182.out | apply lS GE203.out) | exact HB.out)) hb)
          clear BK173
          clear BK174
          clear BK178
          clear BK182
          clear BK203
          clear HB
          have BK173 := n0_
          have BK174 := n1_
          have BK178 := n2_
          have BK182 := n3_
          have BK203 := n4_
          have HB := n5_
          clear n0_ n1_ n2_ n3_ n4_ n5_
          (try clear hb)
          (try clear hb2)
          (try clear hk)
          (try clear hi)
          refine hK.out _ _ ⟨(blk_cell BK203.out 0).trans rfl, (blk_cell BK203.out 1).trans rfl, (blk_cell BK173.out 0).trans rfl, (blk_cell BK173.out 1).trans rfl, (blk_cell BK174.out 0).trans rfl, (blk_cell BK174.out 1).trans rfl⟩ (fun hHeld => ?_)
          clear hK K
          refine norm_ (a' := ?_) ?_ ?_
          rotate_left
          ·show Act.put _ (some 122) _ = _
           simp only [Act.put, List.setIfInBounds_toArray, List.set_cons_zero, List.set_cons_succ, i64_w, i32_w]
           rfl
          refine pure_ (i := 8) (N := some 123) (v := ?_) (a' := ?_) v64 rfl rfl (any_of HT_.out (by kernel_rfl)) (fun _ _ _ h => h) (Or.inl ⟨by rfl, ?_⟩) ?_ ?_
          rotate_left
          ·intro w'
           go_simp
           with_reducible rfl
          rotate_left
          ·simp only [Act.put, List.setIfInBounds_toArray, List.set_cons_zero, List.set_cons_succ, i64_w, i32_w]
           rfl
          refine pure_ (i := 9) (N := some 124) (v := ?_) (a' := ?_) v65 rfl rfl (any_of HT_.out (by kernel_rfl)) (fun _ _ _ h => h) (Or.inl ⟨by rfl, ?_⟩) ?_ ?_
          rotate_left
          ·intro w'
           go_simp
           with_reducible rfl
          rotate_left
          ·simp only [Act.put, List.setIfInBounds_toArray, List.set_cons_zero, List.set_cons_succ, i64_w, i32_w]
           rfl
          refine pure_ (i := 10) (N := some 125) (v := ?_) (a' := ?_) v66 rfl rfl (any_of HT_.out (by kernel_rfl)) (fun _ _ _ h => h) (Or.inl ⟨by rfl, ?_⟩) ?_ ?_
          rotate_left
          ·intro w'
           go_simp
           with_reducible rfl
          rotate_left
          ·simp only [Act.put, List.setIfInBounds_toArray, List.set_cons_zero, List.set_cons_succ, i64_w, i32_w]
           rfl
          refine take_ (i := 11) (N := some 126) (v := ?_) (a' := ?_) v67 rfl rfl (take_ofW HT_.out HW_.out (by kernel_rfl)) (fun _ _ _ h => h) (Or.inl ⟨by rfl, ?_⟩) hHeld ?_ ?_
          rotate_left
          ·rintro w' ⟨s0, s1, s2, s3, s4, s5⟩
           go_simp
           with_reducible rfl
          rotate_left
          ·simp only [Act.put, List.setIfInBounds_toArray, List.set_cons_zero, List.set_cons_succ, i64_w, i32_w]
           rfl
          refine take_ (i := 12) (N := some 127) (v := ?_) (a' := ?_) v68 rfl rfl (take_ofW HT_.out HW_.out (by kernel_rfl)) (fun _ _ _ h => h) (Or.inl ⟨by rfl, ?_⟩) hHeld ?_ ?_
          rotate_left
          ·rintro w' ⟨s0, s1, s2, s3, s4, s5⟩
           go_simp
           with_reducible rfl
          rotate_left
          ·simp only [Act.put, List.setIfInBounds_toArray, List.set_cons_zero, List.set_cons_succ, i64_w, i32_w]
           rfl
          refine take_ (i := 13) (N := some 128) (v := ?_) (a' := ?_) v69 rfl rfl (take_ofW HT_.out HW_.out (by kernel_rfl)) (fun _ _ _ h => h) (Or.inl ⟨by rfl, ?_⟩) hHeld ?_ ?_
          rotate_left
          ·rintro w' ⟨s0, s1, s2, s3, s4, s5⟩
           go_simp
           with_reducible rfl
          rotate_left
          ·simp only [Act.put, List.setIfInBounds_toArray, List.set_cons_zero, List.set_cons_succ, i64_w, i32_w]
           rfl
          refine one_ (i := 14) (N := some 129) v70 rfl rfl (one_of HT_.out (by kernel_rfl)) (by decide) (fun K hK => ?_)
          refine goes_ Tryd.func20 (by kernel_rfl) rfl #[.agg #[.int .u32 t171, .int .i64 t172], .agg #[.int .u32 t169, .int .i64 t170]] (by rfl) rfl rfl (by (try simp only [List.map_toArray, List.map_cons, List.map_nil]); first | done | rfl) ?_
          with_reducible refine (addr_Meet.calls kj38 t171 t172 t169 t170 t206 t207 _ A502.out).mono ?_
          rintro e w514 ⟨rfl, hb⟩
          refine ⟨_, rfl, ?_⟩
          have n0_ := Aside0.mk (blk_below (g := gb173) (o := .cells #[.int .u32 t169, .int .i64 t170] 24 (0, 0)) (by (with_reducible repeat first | apply bN | apply bD | apply bA); exact BK173.out) hb)
          have n1_ := Aside0.mk (blk_below (g := gb174) (o := .cells #[.int .u32 t171, .int .i64 t172] 24 (0, 0)) (by (with_reducible repeat first | apply bN | apply bD | apply bA); exact BK174.out) hb)
          have n2_ := Aside0.mk (blk_below (g := gb178) (o := .cells #[.int .u32 t175, .int .i64 t176] 24 (0, 0)) (by (with_reducible repeat first | apply bN | apply bD | apply bA); exact BK178.out) hb)
          have n3_ := Aside0.mk (blk_below (g := gb182) (o := .cells #[.int .u32 t179, .int .i64 t180] 24 (0, 0)) (by (with_reducible repeat first | apply bN | apply bD | apply bA); exact BK182.out) hb)
          have n4_ := Aside0.mk (blk_below (g := gb203) (o := .cells #[.int .u32 t201, .int .i64 t202] 24 (0, 0)) (by (with_reducible repeat first | apply bN | apply bD | apply bA); exact BK203.out) hb)
          have n5_ := Aside0.mk (below_step (by repeat (first | (with_reducible first | exact HB.out | apply lA | apply lN | apply lD | apply lS GE173.out | apply lS GE174.out | apply lS GE178.out | apply lS GE182.out | apply lS GE203.out) | exact HB.out)) hb)
          clear BK173
          clear BK174
          clear BK178
          clear BK182
          clear BK203
          clear HB
          have BK173 := n0_
          have BK174 := n1_
          have BK178 := n2_
          have BK182 := n3_
          have BK203 := n4_
          have HB := n5_
          clear n0_ n1_ n2_ n3_ n4_ n5_
          (try clear hb)
          (try clear hb2)
          (try clear hk)
          (try clear hi)
          refine hK.out _ _ ⟨(blk_cell BK203.out 0).trans rfl, (blk_cell BK203.out 1).trans rfl, (blk_cell BK173.out 0).trans rfl, (blk_cell BK173.out 1).trans rfl, (blk_cell BK174.out 0).trans rfl, (blk_cell BK174.out 1).trans rfl⟩ (fun hHeld => ?_)
          clear hK K
          refine norm_ (a' := ?_) ?_ ?_
          rotate_left
          ·show Act.put _ (some 129) _ = _
           simp only [Act.put, List.setIfInBounds_toArray, List.set_cons_zero, List.set_cons_succ, i64_w, i32_w]
           rfl
          refine pure_ (i := 15) (N := some 130) (v := ?_) (a' := ?_) v71 rfl rfl (any_of HT_.out (by kernel_rfl)) (fun _ _ _ h => h) (Or.inl ⟨by rfl, ?_⟩) ?_ ?_
          rotate_left
          ·intro w'
           go_simp
           with_reducible rfl
          rotate_left
          ·simp only [Act.put, List.setIfInBounds_toArray, List.set_cons_zero, List.set_cons_succ, i64_w, i32_w]
           rfl
          refine pure_ (i := 16) (N := some 131) (v := ?_) (a' := ?_) v72 rfl rfl (any_of HT_.out (by kernel_rfl)) (fun _ _ _ h => h) (Or.inl ⟨by rfl, ?_⟩) ?_ ?_
          rotate_left
          ·intro w'
           go_simp
           with_reducible rfl
          rotate_left
          ·simp only [Act.put, List.setIfInBounds_toArray, List.set_cons_zero, List.set_cons_succ, i64_w, i32_w]
           rfl
          refine pure_ (i := 17) (N := some 132) (v := ?_) (a' := ?_) v73 rfl rfl (any_of HT_.out (by kernel_rfl)) (fun _ _ _ h => h) (Or.inl ⟨by rfl, ?_⟩) ?_ ?_
          rotate_left
          ·intro w'
           go_simp
           with_reducible rfl
          rotate_left
          ·simp only [Act.put, List.setIfInBounds_toArray, List.set_cons_zero, List.set_cons_succ, i64_w, i32_w]
           rfl
          refine take_ (i := 18) (N := some 133) (v := ?_) (a' := ?_) v74 rfl rfl (take_ofW HT_.out HW_.out (by kernel_rfl)) (fun _ _ _ h => h) (Or.inl ⟨by rfl, ?_⟩) hHeld ?_ ?_
          rotate_left
          ·rintro w' ⟨s0, s1, s2, s3, s4, s5⟩
           go_simp
           with_reducible rfl
          rotate_left
          ·simp only [Act.put, List.setIfInBounds_toArray, List.set_cons_zero, List.set_cons_succ, i64_w, i32_w]
           rfl
          refine take_ (i := 19) (N := some 134) (v := ?_) (a' := ?_) v75 rfl rfl (take_ofW HT_.out HW_.out (by kernel_rfl)) (fun _ _ _ h => h) (Or.inl ⟨by rfl, ?_⟩) hHeld ?_ ?_
          rotate_left
          ·rintro w' ⟨s0, s1, s2, s3, s4, s5⟩
           go_simp
           with_reducible rfl
          rotate_left
          ·simp only [Act.put, List.setIfInBounds_toArray, List.set_cons_zero, List.set_cons_succ, i64_w, i32_w]
           rfl
          refine take_ (i := 21) (N := some 136) (v := ?_) (a' := ?_) v76 rfl rfl (take_ofW HT_.out HW_.out (by kernel_rfl)) (fun _ _ _ h => h) (Or.inl ⟨by rfl, ?_⟩) hHeld ?_ ?_
          rotate_left
          ·rintro w' ⟨s0, s1, s2, s3, s4, s5⟩
           go_simp
           with_reducible rfl
          rotate_left
          ·simp only [Act.put, List.setIfInBounds_toArray, List.set_cons_zero, List.set_cons_succ, i64_w, i32_w]
           rfl
          refine take_ (i := 22) (N := some 137) (v := ?_) (a' := ?_) v77 rfl rfl (take_ofW HT_.out HW_.out (by kernel_rfl)) (fun _ _ _ h => h) (Or.inl ⟨by rfl, ?_⟩) hHeld ?_ ?_
          rotate_left
          ·rintro w' ⟨s0, s1, s2, s3, s4, s5⟩
           go_simp
           with_reducible rfl
          rotate_left
          ·simp only [Act.put, List.setIfInBounds_toArray, List.set_cons_zero, List.set_cons_succ, i64_w, i32_w]
           rfl
          refine pure_ (i := 23) (N := some 138) (v := ?_) (a' := ?_) v78 rfl rfl (any_of HT_.out (by kernel_rfl)) (fun _ _ _ h => h) (Or.inl ⟨by rfl, ?_⟩) ?_ ?_
          rotate_left
          ·intro w'
           go_simp
           with_reducible rfl
          rotate_left
          ·simp only [Act.put, List.setIfInBounds_toArray, List.set_cons_zero, List.set_cons_succ, i64_w, i32_w]
           rfl
          refine one_ (i := 20) (N := some 135) v79 rfl rfl (one_of HT_.out (by kernel_rfl)) (by decide) (fun K hK => ?_)
          refine goes_ Tryd.func19 (by kernel_rfl) rfl #[.agg #[.int .u32 t169, .int .i64 t170], .agg #[.int .u32 t171, .int .i64 t172]] (by rfl) rfl rfl (by (try simp only [List.map_toArray, List.map_cons, List.map_nil]); first | done | rfl) ?_
          with_reducible refine (addr_Covers.calls t169 t170 t171 t172 t208 _ A509.out).mono ?_
          rintro e w515 ⟨rfl, hb⟩
          refine ⟨_, rfl, ?_⟩
          have n0_ := Aside0.mk (blk_below (g := gb173) (o := .cells #[.int .u32 t169, .int .i64 t170] 24 (0, 0)) (by (with_reducible repeat first | apply bN | apply bD | apply bA); exact BK173.out) hb)
          have n1_ := Aside0.mk (blk_below (g := gb174) (o := .cells #[.int .u32 t171, .int .i64 t172] 24 (0, 0)) (by (with_reducible repeat first | apply bN | apply bD | apply bA); exact BK174.out) hb)
          have n2_ := Aside0.mk (blk_below (g := gb178) (o := .cells #[.int .u32 t175, .int .i64 t176] 24 (0, 0)) (by (with_reducible repeat first | apply bN | apply bD | apply bA); exact BK178.out) hb)
          have n3_ := Aside0.mk (blk_below (g := gb182) (o := .cells #[.int .u32 t179, .int .i64 t180] 24 (0, 0)) (by (with_reducible repeat first | apply bN | apply bD | apply bA); exact BK182.out) hb)
          have n4_ := Aside0.mk (blk_below (g := gb203) (o := .cells #[.int .u32 t201, .int .i64 t202] 24 (0, 0)) (by (with_reducible repeat first | apply bN | apply bD | apply bA); exact BK203.out) hb)
          have n5_ := Aside0.mk (below_step (by repeat (first | (with_reducible first | exact HB.out | apply lA | apply lN | apply lD | apply lS GE173.out | apply lS GE174.out | apply lS GE178.out | apply lS GE182.out | apply lS GE203.out) | exact HB.out)) hb)
          clear BK173
          clear BK174
          clear BK178
          clear BK182
          clear BK203
          clear HB
          have BK173 := n0_
          have BK174 := n1_
          have BK178 := n2_
          have BK182 := n3_
          have BK203 := n4_
          have HB := n5_
          clear n0_ n1_ n2_ n3_ n4_ n5_
          (try clear hb)
          (try clear hb2)
          (try clear hk)
          (try clear hi)
          refine hK.out _ _ ⟨(blk_cell BK203.out 0).trans rfl, (blk_cell BK203.out 1).trans rfl, (blk_cell BK173.out 0).trans rfl, (blk_cell BK173.out 1).trans rfl, (blk_cell BK174.out 0).trans rfl, (blk_cell BK174.out 1).trans rfl⟩ (fun hHeld => ?_)
          clear hK K
          refine norm_ (a' := ?_) ?_ ?_
          rotate_left
          ·show Act.put _ (some 135) _ = _
           simp only [Act.put, List.setIfInBounds_toArray, List.set_cons_zero, List.set_cons_succ, i64_w, i32_w]
           rfl
          refine pure_ (i := 24) (N := some 139) (v := ?_) (a' := ?_) v80 rfl rfl (any_of HT_.out (by kernel_rfl)) (fun _ _ _ h => h) (Or.inl ⟨by rfl, ?_⟩) ?_ ?_
          rotate_left
          ·intro w'
           go_simp
           with_reducible rfl
          rotate_left
          ·simp only [Act.put, List.setIfInBounds_toArray, List.set_cons_zero, List.set_cons_succ, i64_w, i32_w]
           rfl
          refine pure_ (i := 25) (N := some 140) (v := ?_) (a' := ?_) v81 rfl rfl (any_of HT_.out (by kernel_rfl)) (fun _ _ _ h => h) (Or.inl ⟨by rfl, ?_⟩) ?_ ?_
          rotate_left
          ·intro w'
           go_simp
           with_reducible rfl
          rotate_left
          ·simp only [Act.put, List.setIfInBounds_toArray, List.set_cons_zero, List.set_cons_succ, i64_w, i32_w]
           rfl
          refine done_ (done_of HT_.out (by kernel_rfl)) ?_
          try go_wp2
          go_meet
          case rel => exact ⟨_, ((t208 != (t201 == t169 && (t202 == t170)))), (by first | rfl | (simp; done) | (simp [*]; done)), H', ⟨by have := HJ8.out; have := HJ38.out; first | omega | exact Nat.le_refl _⟩, ⟨by (with_reducible repeat first | apply bN | apply bD | apply bA); exact BK173.out⟩, ⟨by (with_reducible repeat first | apply bN | apply bD | apply bA); exact BK174.out⟩, ⟨by (with_reducible repeat first | apply bN | apply bD | apply bA); exact BK178.out⟩, ⟨by (with_reducible repeat first | apply bN | apply bD | apply bA); exact BK182.out⟩, ⟨by (with_reducible repeat first | apply bN | apply bD | apply bA); exact BK203.out⟩, ⟨by repeat (first | (with_reducible first | exact HB.out | apply lA | apply lN | apply lD | apply lS GE173.out | apply lS GE174.out | apply lS GE178.out | apply lS GE182.out | apply lS GE203.out) | exact HB.out)⟩⟩
        ·replace c501 := Bool.eq_false_iff.mpr c501
         subst c501
         have H1 : (signpostlaw1_AddrRules.j2 kj38 true t169 t170 t171 t172 t201 t202) = some r := by rw [if_neg (show ¬ (false = true) by decide)] at H; exact H
         clear H
         have H := H1
         exact absurd (H.trans (congrArg some hr)) (signpostlaw1_AddrRules.j2_dead _ _ _ _ _ _ _)
       ·replace c499 := Bool.eq_false_iff.mpr c499
        subst c499
        have H1 : (signpostlaw1_AddrRules.j2 kj38 true t169 t170 t171 t172 t201 t202) = some r := by rw [if_neg (show ¬ (false = true) by decide)] at H; exact H
        clear H
        have H := H1
        exact absurd (H.trans (congrArg some hr)) (signpostlaw1_AddrRules.j2_dead _ _ _ _ _ _ _)
      case rest =>
       clear HC483
       try clear c1
       try clear p2
       try clear c4
       try clear c5
       try clear c19
       try clear c49
       try clear c50
       try clear c499
       try clear c501
       obtain ⟨kq, x140_482, rfl, HA, HJ482, BK173, BK174, BK178, BK182, BK203, HB⟩ := hcut
       cases kq with
       | zero => exact absurd HA.out (by simp [signpostlaw1_AddrRules.j2])
       | succ kj482 =>
        have H := HA.out
        clear HA
        simp only [signpostlaw1_AddrRules.j2] at H
        by_cases c523 : x140_482 = true
        ·subst c523
         have H1 : (some false) = some r := by rw [if_pos rfl] at H; exact H
         clear H
         have H := H1
         clear H1
         exact absurd ((Option.some.inj H).trans hr) (by decide)
        ·replace c523 := Bool.eq_false_iff.mpr c523
         subst c523
         have H1 : (signpostlaw1_AddrRules.l0 kj482 0 t169 t170 t171 t172 t201 t202) = some r := by rw [if_neg (show ¬ (false = true) by decide)] at H; exact H
         clear H
         have H := H1
         clear H1
         have H' := Aside0.mk H
         clear H
         go_wp2
         go_loopg [20] kj482 (fun kq v20 w' => ∃ (x20_4 : Int), v20 = .int .i64 x20_4 ∧ Aside0 (signpostlaw1_AddrRules.l0 kq x20_4 t169 t170 t171 t172 t201 t202 = some r) ∧ Aside0 (kq ≤ kj482) ∧ Aside0 (w'.heap[gb173]? = some (.cells #[.int .u32 t169, .int .i64 t170] 24 (0, 0))) ∧ Aside0 (w'.heap[gb174]? = some (.cells #[.int .u32 t171, .int .i64 t172] 24 (0, 0))) ∧ Aside0 (w'.heap[gb178]? = some (.cells #[.int .u32 t175, .int .i64 t176] 24 (0, 0))) ∧ Aside0 (w'.heap[gb182]? = some (.cells #[.int .u32 t179, .int .i64 t180] 24 (0, 0))) ∧ Aside0 (w'.heap[gb203]? = some (.cells #[.int .u32 t201, .int .i64 t202] 24 (0, 0))) ∧ Aside0 (Below w.heap.size w w'))
         case atStart => exact ⟨(0), (by first | rfl | (simp; done) | (simp [*]; done)), H', ⟨Nat.le_refl _⟩, ⟨by (with_reducible repeat first | apply bN | apply bD | apply bA); exact BK173.out⟩, ⟨by (with_reducible repeat first | apply bN | apply bD | apply bA); exact BK174.out⟩, ⟨by (with_reducible repeat first | apply bN | apply bD | apply bA); exact BK178.out⟩, ⟨by (with_reducible repeat first | apply bN | apply bD | apply bA); exact BK182.out⟩, ⟨by (with_reducible repeat first | apply bN | apply bD | apply bA); exact BK203.out⟩, ⟨by repeat (first | (with_reducible first | exact HB.out | apply lA | apply lN | apply lD | apply lS GE173.out | apply lS GE174.out | apply lS GE178.out | apply lS GE182.out | apply lS GE203.out) | exact HB.out)⟩⟩
         case round =>
          clear H'
          try clear c1
          try clear p2
          try clear c4
          try clear c5
          try clear c19
          try clear c49
          try clear c50
          try clear c52
          try clear c499
          try clear c501
          try clear c523
          try clear p2
          obtain ⟨x20_4, rfl, HA, HK4, BK173, BK174, BK178, BK182, BK203, HB⟩ := hrel
          cases gk with
          | zero => exact absurd HA.out (by simp [signpostlaw1_AddrRules.l0])
          | succ k4 =>
           have H := HA.out
           clear HA
           simp only [signpostlaw1_AddrRules.l0] at H
           by_cases c524 : x20_4 < 2
           ·rw [if_pos c524] at H
            have c524b0 : decide (x20_4 < 2) = true := decide_eq_true c524
            clear c524
            replace H := Option.bind_eq_some_iff.mp H
            obtain ⟨⟨t209, t210, t211⟩, A5250, H⟩ := H
            replace H : (if t211 = true then ((addr_Covers.f t209 t210 t169 t170).bind fun t213 => (if t213 = true then ((addr_Covers.f t209 t210 t171 t172).bind fun t214 => (if t214 = true then (some false) else (signpostlaw1_AddrRules.l0 k4 (wrap64 (x20_4 + 1)) t169 t170 t171 t172 t201 t202))) else (signpostlaw1_AddrRules.l0 k4 (wrap64 (x20_4 + 1)) t169 t170 t171 t172 t201 t202))) else (signpostlaw1_AddrRules.l0 k4 (wrap64 (x20_4 + 1)) t169 t170 t171 t172 t201 t202)) = some r := H
            have A525 := Aside0.mk A5250
            clear A5250
            by_cases c526 : t211 = true
            ·subst c526
             have H1 : ((addr_Covers.f t209 t210 t169 t170).bind fun t213 => (if t213 = true then ((addr_Covers.f t209 t210 t171 t172).bind fun t214 => (if t214 = true then (some false) else (signpostlaw1_AddrRules.l0 k4 (wrap64 (x20_4 + 1)) t169 t170 t171 t172 t201 t202))) else (signpostlaw1_AddrRules.l0 k4 (wrap64 (x20_4 + 1)) t169 t170 t171 t172 t201 t202))) = some r := by rw [if_pos rfl] at H; exact H
             clear H
             have H := H1
             clear H1
             replace H := Option.bind_eq_some_iff.mp H
             obtain ⟨t213, A5270, H⟩ := H
             replace H : (if t213 = true then ((addr_Covers.f t209 t210 t171 t172).bind fun t214 => (if t214 = true then (some false) else (signpostlaw1_AddrRules.l0 k4 (wrap64 (x20_4 + 1)) t169 t170 t171 t172 t201 t202))) else (signpostlaw1_AddrRules.l0 k4 (wrap64 (x20_4 + 1)) t169 t170 t171 t172 t201 t202)) = some r := H
             have A527 := Aside0.mk A5270
             clear A5270
             by_cases c528 : t213 = true
             ·subst c528
              have H1 : ((addr_Covers.f t209 t210 t171 t172).bind fun t214 => (if t214 = true then (some false) else (signpostlaw1_AddrRules.l0 k4 (wrap64 (x20_4 + 1)) t169 t170 t171 t172 t201 t202))) = some r := by rw [if_pos rfl] at H; exact H
              clear H
              have H := H1
              clear H1
              replace H := Option.bind_eq_some_iff.mp H
              obtain ⟨t214, A5290, H⟩ := H
              replace H : (if t214 = true then (some false) else (signpostlaw1_AddrRules.l0 k4 (wrap64 (x20_4 + 1)) t169 t170 t171 t172 t201 t202)) = some r := H
              have A529 := Aside0.mk A5290
              clear A5290
              by_cases c530 : t214 = true
              ·subst c530
               have H1 : (some false) = some r := by rw [if_pos rfl] at H; exact H
               clear H
               have H := H1
               clear H1
               exact absurd ((Option.some.inj H).trans hr) (by decide)
              ·replace c530 := Bool.eq_false_iff.mpr c530
               subst c530
               have H1 : (signpostlaw1_AddrRules.l0 k4 (wrap64 (x20_4 + 1)) t169 t170 t171 t172 t201 t202) = some r := by rw [if_neg (show ¬ (false = true) by decide)] at H; exact H
               clear H
               have H := H1
               clear H1
               have H' := Aside0.mk H
               clear H
               have hnb554 := NB203_173.out
               have hnc554 := NB173_203.out
               have hnb555 := NB203_174.out
               have hnc555 := NB174_203.out
               have hnb556 := NB203_178.out
               have hnc556 := NB178_203.out
               have hnb557 := NB203_182.out
               have hnc557 := NB182_203.out
               have hcz558_0 : wr.cell? ⟨gb203, 0, none⟩ = some (.int .u32 t201) := (blk_cell BK203.out 0).trans rfl
               have hcz558_1 : wr.cell? ⟨gb203, 1, none⟩ = some (.int .i64 t202) := (blk_cell BK203.out 1).trans rfl
               have hfz558_0 := blk_frozen BK203.out 0
               have hfz558_1 := blk_frozen BK203.out 1
               go_wp2_with (first | ((with_reducible refine gate_callee (f := 23) rfl ?_); refine goesL_ (some 149) rfl rfl Tryd.func23 (by kernel_rfl) rfl #[.agg #[.int .u32 t201, .int .i64 t202], .bool (x20_4 == 1)] rfl (by (try simp only [List.map_toArray, List.map_cons, List.map_nil]); first | done | rfl) ?_; (with_reducible refine (addr_Half.calls k4 t201 t202 (x20_4 == 1) t209 t210 true _ A525.out).mono ?_); rintro e w559 ⟨rfl, hb⟩; refine ⟨_, rfl, ?_⟩; have n0_ := Aside0.mk (blk_below (g := gb173) (o := .cells #[.int .u32 t169, .int .i64 t170] 24 (0, 0)) (by (with_reducible repeat first | apply bN | apply bD | apply bA); exact BK173.out) hb); have n1_ := Aside0.mk (blk_below (g := gb174) (o := .cells #[.int .u32 t171, .int .i64 t172] 24 (0, 0)) (by (with_reducible repeat first | apply bN | apply bD | apply bA); exact BK174.out) hb); have n2_ := Aside0.mk (blk_below (g := gb178) (o := .cells #[.int .u32 t175, .int .i64 t176] 24 (0, 0)) (by (with_reducible repeat first | apply bN | apply bD | apply bA); exact BK178.out) hb); have n3_ := Aside0.mk (blk_below (g := gb182) (o := .cells #[.int .u32 t179, .int .i64 t180] 24 (0, 0)) (by (with_reducible repeat first | apply bN | apply bD | apply bA); exact BK182.out) hb); have n4_ := Aside0.mk (blk_below (g := gb203) (o := .cells #[.int .u32 t201, .int .i64 t202] 24 (0, 0)) (by (with_reducible repeat first | apply bN | apply bD | apply bA); exact BK203.out) hb); have n5_ := Aside0.mk (below_step (by repeat (first | (with_reducible first | exact HB.out | apply lA | apply lN | apply lD | apply lS GE173.out | apply lS GE174.out | apply lS GE178.out | apply lS GE182.out | apply lS GE203.out) | exact HB.out)) hb); clear BK173; clear BK174; clear BK178; clear BK182; clear BK203; clear HB; have BK173 := n0_; have BK174 := n1_; have BK178 := n2_; have BK182 := n3_; have BK203 := n4_; have HB := n5_; clear n0_ n1_ n2_ n3_ n4_ n5_; (try clear hb)) | ((with_reducible refine gate_dst (N := 21) rfl ?_); refine box_event ?hg (N := 21) ?hd (cs := #[.int .u32 0, .int .i64 0]) (t := 24) ?hr ?_; (case hd => rfl); (case hg => rfl); (case hr => first | (go_simp; done) | (go_simp; rfl)); intro gb212 hg w560 hbox hb; have n0_ := Aside0.mk (blk_below (g := gb173) (o := .cells #[.int .u32 t169, .int .i64 t170] 24 (0, 0)) (by (with_reducible repeat first | apply bN | apply bD | apply bA); exact BK173.out) hb); have n1_ := Aside0.mk (blk_below (g := gb174) (o := .cells #[.int .u32 t171, .int .i64 t172] 24 (0, 0)) (by (with_reducible repeat first | apply bN | apply bD | apply bA); exact BK174.out) hb); have n2_ := Aside0.mk (blk_below (g := gb178) (o := .cells #[.int .u32 t175, .int .i64 t176] 24 (0, 0)) (by (with_reducible repeat first | apply bN | apply bD | apply bA); exact BK178.out) hb); have n3_ := Aside0.mk (blk_below (g := gb182) (o := .cells #[.int .u32 t179, .int .i64 t180] 24 (0, 0)) (by (with_reducible repeat first | apply bN | apply bD | apply bA); exact BK182.out) hb); have n4_ := Aside0.mk (blk_below (g := gb203) (o := .cells #[.int .u32 t201, .int .i64 t202] 24 (0, 0)) (by (with_reducible repeat first | apply bN | apply bD | apply bA); exact BK203.out) hb); have n5_ := Aside0.mk (below_step (by repeat (first | (with_reducible first | exact HB.out | apply lA | apply lN | apply lD | apply lS GE173.out | apply lS GE174.out | apply lS GE178.out | apply lS GE182.out | apply lS GE203.out) | exact HB.out)) hb); have n6_ := Aside0.mk (hbox); have n7_ := Aside0.mk ((by rw [hg]; exact (below_size (by repeat (first | (with_reducible first | exact HB.out | apply lA | apply lN | apply lD | apply lS GE173.out | apply lS GE174.out | apply lS GE178.out | apply lS GE182.out | apply lS GE203.out) | exact HB.out))) : w.heap.size ≤ gb212)); have n8_ := Aside0.mk ((by rw [hg]; exact (below_size (by repeat (first | (with_reducible first | exact HB.out | apply lA | apply lN | apply lD | apply lS GE173.out | apply lS GE174.out | apply lS GE178.out | apply lS GE182.out | apply lS GE203.out) | exact HB.out))) : w.heap.size ≤ gb212)); have n9_ := Aside0.mk ((by rw [hg]; exact Nat.ne_of_lt (blk_lt (g := gb173) (o := .cells #[.int .u32 t169, .int .i64 t170] 24 (0, 0)) (by (with_reducible repeat first | apply bN | apply bD | apply bA); exact BK173.out)) : gb173 ≠ gb212)); have n10_ := Aside0.mk ((by rw [hg]; exact Nat.ne_of_gt (blk_lt (g := gb173) (o := .cells #[.int .u32 t169, .int .i64 t170] 24 (0, 0)) (by (with_reducible repeat first | apply bN | apply bD | apply bA); exact BK173.out)) : gb212 ≠ gb173)); have n11_ := Aside0.mk ((by rw [hg]; exact Nat.ne_of_lt (blk_lt (g := gb174) (o := .cells #[.int .u32 t171, .int .i64 t172] 24 (0, 0)) (by (with_reducible repeat first | apply bN | apply bD | apply bA); exact BK174.out)) : gb174 ≠ gb212)); have n12_ := Aside0.mk ((by rw [hg]; exact Nat.ne_of_gt (blk_lt (g := gb174) (o := .cells #[.int .u32 t171, .int .i64 t172] 24 (0, 0)) (by (with_reducible repeat first | apply bN | apply bD | apply bA); exact BK174.out)) : gb212 ≠ gb174)); have n13_ := Aside0.mk ((by rw [hg]; exact Nat.ne_of_lt (blk_lt (g := gb178) (o := .cells #[.int .u32 t175, .int .i64 t176] 24 (0, 0)) (by (with_reducible repeat first | apply bN | apply bD | apply bA); exact BK178.out)) : gb178 ≠ gb212)); have n14_ := Aside0.mk ((by rw [hg]; exact Nat.ne_of_gt (blk_lt (g := gb178) (o := .cells #[.int .u32 t175, .int .i64 t176] 24 (0, 0)) (by (with_reducible repeat first | apply bN | apply bD | apply bA); exact BK178.out)) : gb212 ≠ gb178)); have n15_ := Aside0.mk ((by rw [hg]; exact Nat.ne_of_lt (blk_lt (g := gb182) (o := .cells #[.int .u32 t179, .int .i64 t180] 24 (0, 0)) (by (with_reducible repeat first | apply bN | apply bD | apply bA); exact BK182.out)) : gb182 ≠ gb212)); have n16_ := Aside0.mk ((by rw [hg]; exact Nat.ne_of_gt (blk_lt (g := gb182) (o := .cells #[.int .u32 t179, .int .i64 t180] 24 (0, 0)) (by (with_reducible repeat first | apply bN | apply bD | apply bA); exact BK182.out)) : gb212 ≠ gb182)); have n17_ := Aside0.mk ((by rw [hg]; exact Nat.ne_of_lt (blk_lt (g := gb203) (o := .cells #[.int .u32 t201, .int .i64 t202] 24 (0, 0)) (by (with_reducible repeat first | apply bN | apply bD | apply bA); exact BK203.out)) : gb203 ≠ gb212)); have n18_ := Aside0.mk ((by rw [hg]; exact Nat.ne_of_gt (blk_lt (g := gb203) (o := .cells #[.int .u32 t201, .int .i64 t202] 24 (0, 0)) (by (with_reducible repeat first | apply bN | apply bD | apply bA); exact BK203.out)) : gb212 ≠ gb203)); clear BK173; clear BK174; clear BK178; clear BK182; clear BK203; clear HB; have BK173 := n0_; have BK174 := n1_; have BK178 := n2_; have BK182 := n3_; have BK203 := n4_; have HB := n5_; have BK212 := n6_; have GW212 := n7_; have GE212 := n8_; have NB173_212 := n9_; have NB212_173 := n10_; have NB174_212 := n11_; have NB212_174 := n12_; have NB178_212 := n13_; have NB212_178 := n14_; have NB182_212 := n15_; have NB212_182 := n16_; have NB203_212 := n17_; have NB212_203 := n18_; clear n0_ n1_ n2_ n3_ n4_ n5_ n6_ n7_ n8_ n9_ n10_ n11_ n12_ n13_ n14_ n15_ n16_ n17_ n18_; clear hb hbox hg; have hnb561 := NB212_173.out; have hnc561 := NB173_212.out; have hnb562 := NB212_174.out; have hnc562 := NB174_212.out; have hnb563 := NB212_178.out; have hnc563 := NB178_212.out; have hnb564 := NB212_182.out; have hnc564 := NB182_212.out; have hnb565 := NB212_203.out; have hnc565 := NB203_212.out; have hcz566_0 : w560.cell? ⟨gb212, 0, none⟩ = some (.int .u32 0) := (blk_cell BK212.out 0).trans rfl; have hcz566_1 : w560.cell? ⟨gb212, 1, none⟩ = some (.int .i64 0) := (blk_cell BK212.out 1).trans rfl; have hfz566_0 := blk_frozen BK212.out 0; have hfz566_1 := blk_frozen BK212.out 1; have hnb567 := NB173_174.out; have hnc567 := NB174_173.out; have hnb568 := NB173_178.out; have hnc568 := NB178_173.out; have hnb569 := NB173_182.out; have hnc569 := NB182_173.out; have hcz570_0 : w560.cell? ⟨gb173, 0, none⟩ = some (.int .u32 t169) := (blk_cell BK173.out 0).trans rfl; have hcz570_1 : w560.cell? ⟨gb173, 1, none⟩ = some (.int .i64 t170) := (blk_cell BK173.out 1).trans rfl; have hfz570_0 := blk_frozen BK173.out 0; have hfz570_1 := blk_frozen BK173.out 1) | (go_at_call 19; (with_reducible refine (addr_Covers.calls t209 t210 t169 t170 true _ A527.out).mono ?_); rintro e w571 ⟨rfl, hb⟩; have n0_ := Aside0.mk (blk_below (g := gb173) (o := .cells #[.int .u32 t169, .int .i64 t170] 24 (0, 0)) (by (with_reducible repeat first | apply bN | apply bD | apply bA); refine blk_far ?_ NB173_212.out _; (with_reducible repeat first | apply bN | apply bD | apply bA); refine blk_far ?_ NB173_212.out _; (with_reducible repeat first | apply bN | apply bD | apply bA); exact BK173.out) hb); have n1_ := Aside0.mk (blk_below (g := gb174) (o := .cells #[.int .u32 t171, .int .i64 t172] 24 (0, 0)) (by (with_reducible repeat first | apply bN | apply bD | apply bA); refine blk_far ?_ NB174_212.out _; (with_reducible repeat first | apply bN | apply bD | apply bA); refine blk_far ?_ NB174_212.out _; (with_reducible repeat first | apply bN | apply bD | apply bA); exact BK174.out) hb); have n2_ := Aside0.mk (blk_below (g := gb178) (o := .cells #[.int .u32 t175, .int .i64 t176] 24 (0, 0)) (by (with_reducible repeat first | apply bN | apply bD | apply bA); refine blk_far ?_ NB178_212.out _; (with_reducible repeat first | apply bN | apply bD | apply bA); refine blk_far ?_ NB178_212.out _; (with_reducible repeat first | apply bN | apply bD | apply bA); exact BK178.out) hb); have n3_ := Aside0.mk (blk_below (g := gb182) (o := .cells #[.int .u32 t179, .int .i64 t180] 24 (0, 0)) (by (with_reducible repeat first | apply bN | apply bD | apply bA); refine blk_far ?_ NB182_212.out _; (with_reducible repeat first | apply bN | apply bD | apply bA); refine blk_far ?_ NB182_212.out _; (with_reducible repeat first | apply bN | apply bD | apply bA); exact BK182.out) hb); have n4_ := Aside0.mk (blk_below (g := gb203) (o := .cells #[.int .u32 t201, .int .i64 t202] 24 (0, 0)) (by (with_reducible repeat first | apply bN | apply bD | apply bA); refine blk_far ?_ NB203_212.out _; (with_reducible repeat first | apply bN | apply bD | apply bA); refine blk_far ?_ NB203_212.out _; (with_reducible repeat first | apply bN | apply bD | apply bA); exact BK203.out) hb); have n5_ := Aside0.mk (blk_below (g := gb212) (o := .cells #[.int .u32 t209, .int .i64 t210] 24 (0, 0)) (by (with_reducible repeat first | apply bN | apply bD | apply bA); refine blk_put (cs := #[.int .u32 t209, .int .i64 0]) ?_ 1 _ rfl; (with_reducible repeat first | apply bN | apply bD | apply bA); refine blk_put (cs := #[.int .u32 0, .int .i64 0]) ?_ 0 _ rfl; (with_reducible repeat first | apply bN | apply bD | apply bA); exact BK212.out) hb); have n6_ := Aside0.mk (below_step (by repeat (first | (with_reducible first | exact HB.out | apply lA | apply lN | apply lD | apply lS GE173.out | apply lS GE174.out | apply lS GE178.out | apply lS GE182.out | apply lS GE203.out | apply lS GE212.out) | exact HB.out)) hb); clear BK173; clear BK174; clear BK178; clear BK182; clear BK203; clear BK212; clear HB; have BK173 := n0_; have BK174 := n1_; have BK178 := n2_; have BK182 := n3_; have BK203 := n4_; have BK212 := n5_; have HB := n6_; clear n0_ n1_ n2_ n3_ n4_ n5_ n6_; (try clear hb); have hcz572_0 : w571.cell? ⟨gb212, 0, none⟩ = some (.int .u32 t209) := (blk_cell BK212.out 0).trans rfl; have hcz572_1 : w571.cell? ⟨gb212, 1, none⟩ = some (.int .i64 t210) := (blk_cell BK212.out 1).trans rfl; have hfz572_0 := blk_frozen BK212.out 0; have hfz572_1 := blk_frozen BK212.out 1; have hnb573 := NB174_178.out; have hnc573 := NB178_174.out; have hnb574 := NB174_182.out; have hnc574 := NB182_174.out; have hcz575_0 : w571.cell? ⟨gb174, 0, none⟩ = some (.int .u32 t171) := (blk_cell BK174.out 0).trans rfl; have hcz575_1 : w571.cell? ⟨gb174, 1, none⟩ = some (.int .i64 t172) := (blk_cell BK174.out 1).trans rfl; have hfz575_0 := blk_frozen BK174.out 0; have hfz575_1 := blk_frozen BK174.out 1) | (go_at_call 19; (with_reducible refine (addr_Covers.calls t209 t210 t171 t172 false _ A529.out).mono ?_); rintro e w576 ⟨rfl, hb⟩; have n0_ := Aside0.mk (blk_below (g := gb173) (o := .cells #[.int .u32 t169, .int .i64 t170] 24 (0, 0)) (by (with_reducible repeat first | apply bN | apply bD | apply bA); exact BK173.out) hb); have n1_ := Aside0.mk (blk_below (g := gb174) (o := .cells #[.int .u32 t171, .int .i64 t172] 24 (0, 0)) (by (with_reducible repeat first | apply bN | apply bD | apply bA); exact BK174.out) hb); have n2_ := Aside0.mk (blk_below (g := gb178) (o := .cells #[.int .u32 t175, .int .i64 t176] 24 (0, 0)) (by (with_reducible repeat first | apply bN | apply bD | apply bA); exact BK178.out) hb); have n3_ := Aside0.mk (blk_below (g := gb182) (o := .cells #[.int .u32 t179, .int .i64 t180] 24 (0, 0)) (by (with_reducible repeat first | apply bN | apply bD | apply bA); exact BK182.out) hb); have n4_ := Aside0.mk (blk_below (g := gb203) (o := .cells #[.int .u32 t201, .int .i64 t202] 24 (0, 0)) (by (with_reducible repeat first | apply bN | apply bD | apply bA); exact BK203.out) hb); have n5_ := Aside0.mk (blk_below (g := gb212) (o := .cells #[.int .u32 t209, .int .i64 t210] 24 (0, 0)) (by (with_reducible repeat first | apply bN | apply bD | apply bA); exact BK212.out) hb); have n6_ := Aside0.mk (below_step (by repeat (first | (with_reducible first | exact HB.out | apply lA | apply lN | apply lD | apply lS GE173.out | apply lS GE174.out | apply lS GE178.out | apply lS GE182.out | apply lS GE203.out | apply lS GE212.out) | exact HB.out)) hb); clear BK173; clear BK174; clear BK178; clear BK182; clear BK203; clear BK212; clear HB; have BK173 := n0_; have BK174 := n1_; have BK178 := n2_; have BK182 := n3_; have BK203 := n4_; have BK212 := n5_; have HB := n6_; clear n0_ n1_ n2_ n3_ n4_ n5_ n6_; (try clear hb)))
               go_roundg k4
               case measure => have := HJ8.out; have := HJ38.out; have := HJ482.out; have := HK4.out; omega
               case rel => exact ⟨(wrap64 (x20_4 + 1)), (by first | rfl | (simp; done) | (simp [*]; done)), H', ⟨by have := HJ8.out; have := HJ38.out; have := HJ482.out; have := HK4.out; omega⟩, ⟨by (with_reducible repeat first | apply bN | apply bD | apply bA); exact BK173.out⟩, ⟨by (with_reducible repeat first | apply bN | apply bD | apply bA); exact BK174.out⟩, ⟨by (with_reducible repeat first | apply bN | apply bD | apply bA); exact BK178.out⟩, ⟨by (with_reducible repeat first | apply bN | apply bD | apply bA); exact BK182.out⟩, ⟨by (with_reducible repeat first | apply bN | apply bD | apply bA); exact BK203.out⟩, ⟨by repeat (first | (with_reducible first | exact HB.out | apply lA | apply lN | apply lD | apply lS GE173.out | apply lS GE174.out | apply lS GE178.out | apply lS GE182.out | apply lS GE203.out | apply lS GE212.out) | exact HB.out)⟩⟩
             ·replace c528 := Bool.eq_false_iff.mpr c528
              subst c528
              have H1 : (signpostlaw1_AddrRules.l0 k4 (wrap64 (x20_4 + 1)) t169 t170 t171 t172 t201 t202) = some r := by rw [if_neg (show ¬ (false = true) by decide)] at H; exact H
              clear H
              have H := H1
              clear H1
              have H' := Aside0.mk H
              clear H
              have hnb577 := NB203_173.out
              have hnc577 := NB173_203.out
              have hnb578 := NB203_174.out
              have hnc578 := NB174_203.out
              have hnb579 := NB203_178.out
              have hnc579 := NB178_203.out
              have hnb580 := NB203_182.out
              have hnc580 := NB182_203.out
              have hcz581_0 : wr.cell? ⟨gb203, 0, none⟩ = some (.int .u32 t201) := (blk_cell BK203.out 0).trans rfl
              have hcz581_1 : wr.cell? ⟨gb203, 1, none⟩ = some (.int .i64 t202) := (blk_cell BK203.out 1).trans rfl
              have hfz581_0 := blk_frozen BK203.out 0
              have hfz581_1 := blk_frozen BK203.out 1
              go_wp2_with (first | ((with_reducible refine gate_callee (f := 23) rfl ?_); refine goesL_ (some 149) rfl rfl Tryd.func23 (by kernel_rfl) rfl #[.agg #[.int .u32 t201, .int .i64 t202], .bool (x20_4 == 1)] rfl (by (try simp only [List.map_toArray, List.map_cons, List.map_nil]); first | done | rfl) ?_; (with_reducible refine (addr_Half.calls k4 t201 t202 (x20_4 == 1) t209 t210 true _ A525.out).mono ?_); rintro e w582 ⟨rfl, hb⟩; refine ⟨_, rfl, ?_⟩; have n0_ := Aside0.mk (blk_below (g := gb173) (o := .cells #[.int .u32 t169, .int .i64 t170] 24 (0, 0)) (by (with_reducible repeat first | apply bN | apply bD | apply bA); exact BK173.out) hb); have n1_ := Aside0.mk (blk_below (g := gb174) (o := .cells #[.int .u32 t171, .int .i64 t172] 24 (0, 0)) (by (with_reducible repeat first | apply bN | apply bD | apply bA); exact BK174.out) hb); have n2_ := Aside0.mk (blk_below (g := gb178) (o := .cells #[.int .u32 t175, .int .i64 t176] 24 (0, 0)) (by (with_reducible repeat first | apply bN | apply bD | apply bA); exact BK178.out) hb); have n3_ := Aside0.mk (blk_below (g := gb182) (o := .cells #[.int .u32 t179, .int .i64 t180] 24 (0, 0)) (by (with_reducible repeat first | apply bN | apply bD | apply bA); exact BK182.out) hb); have n4_ := Aside0.mk (blk_below (g := gb203) (o := .cells #[.int .u32 t201, .int .i64 t202] 24 (0, 0)) (by (with_reducible repeat first | apply bN | apply bD | apply bA); exact BK203.out) hb); have n5_ := Aside0.mk (below_step (by repeat (first | (with_reducible first | exact HB.out | apply lA | apply lN | apply lD | apply lS GE173.out | apply lS GE174.out | apply lS GE178.out | apply lS GE182.out | apply lS GE203.out) | exact HB.out)) hb); clear BK173; clear BK174; clear BK178; clear BK182; clear BK203; clear HB; have BK173 := n0_; have BK174 := n1_; have BK178 := n2_; have BK182 := n3_; have BK203 := n4_; have HB := n5_; clear n0_ n1_ n2_ n3_ n4_ n5_; (try clear hb)) | ((with_reducible refine gate_dst (N := 21) rfl ?_); refine box_event ?hg (N := 21) ?hd (cs := #[.int .u32 0, .int .i64 0]) (t := 24) ?hr ?_; (case hd => rfl); (case hg => rfl); (case hr => first | (go_simp; done) | (go_simp; rfl)); intro gb212 hg w583 hbox hb; have n0_ := Aside0.mk (blk_below (g := gb173) (o := .cells #[.int .u32 t169, .int .i64 t170] 24 (0, 0)) (by (with_reducible repeat first | apply bN | apply bD | apply bA); exact BK173.out) hb); have n1_ := Aside0.mk (blk_below (g := gb174) (o := .cells #[.int .u32 t171, .int .i64 t172] 24 (0, 0)) (by (with_reducible repeat first | apply bN | apply bD | apply bA); exact BK174.out) hb); have n2_ := Aside0.mk (blk_below (g := gb178) (o := .cells #[.int .u32 t175, .int .i64 t176] 24 (0, 0)) (by (with_reducible repeat first | apply bN | apply bD | apply bA); exact BK178.out) hb); have n3_ := Aside0.mk (blk_below (g := gb182) (o := .cells #[.int .u32 t179, .int .i64 t180] 24 (0, 0)) (by (with_reducible repeat first | apply bN | apply bD | apply bA); exact BK182.out) hb); have n4_ := Aside0.mk (blk_below (g := gb203) (o := .cells #[.int .u32 t201, .int .i64 t202] 24 (0, 0)) (by (with_reducible repeat first | apply bN | apply bD | apply bA); exact BK203.out) hb); have n5_ := Aside0.mk (below_step (by repeat (first | (with_reducible first | exact HB.out | apply lA | apply lN | apply lD | apply lS GE173.out | apply lS GE174.out | apply lS GE178.out | apply lS GE182.out | apply lS GE203.out) | exact HB.out)) hb); have n6_ := Aside0.mk (hbox); have n7_ := Aside0.mk ((by rw [hg]; exact (below_size (by repeat (first | (with_reducible first | exact HB.out | apply lA | apply lN | apply lD | apply lS GE173.out | apply lS GE174.out | apply lS GE178.out | apply lS GE182.out | apply lS GE203.out) | exact HB.out))) : w.heap.size ≤ gb212)); have n8_ := Aside0.mk ((by rw [hg]; exact (below_size (by repeat (first | (with_reducible first | exact HB.out | apply lA | apply lN | apply lD | apply lS GE173.out | apply lS GE174.out | apply lS GE178.out | apply lS GE182.out | apply lS GE203.out) | exact HB.out))) : w.heap.size ≤ gb212)); have n9_ := Aside0.mk ((by rw [hg]; exact Nat.ne_of_lt (blk_lt (g := gb173) (o := .cells #[.int .u32 t169, .int .i64 t170] 24 (0, 0)) (by (with_reducible repeat first | apply bN | apply bD | apply bA); exact BK173.out)) : gb173 ≠ gb212)); have n10_ := Aside0.mk ((by rw [hg]; exact Nat.ne_of_gt (blk_lt (g := gb173) (o := .cells #[.int .u32 t169, .int .i64 t170] 24 (0, 0)) (by (with_reducible repeat first | apply bN | apply bD | apply bA); exact BK173.out)) : gb212 ≠ gb173)); have n11_ := Aside0.mk ((by rw [hg]; exact Nat.ne_of_lt (blk_lt (g := gb174) (o := .cells #[.int .u32 t171, .int .i64 t172] 24 (0, 0)) (by (with_reducible repeat first | apply bN | apply bD | apply bA); exact BK174.out)) : gb174 ≠ gb212)); have n12_ := Aside0.mk ((by rw [hg]; exact Nat.ne_of_gt (blk_lt (g := gb174) (o := .cells #[.int .u32 t171, .int .i64 t172] 24 (0, 0)) (by (with_reducible repeat first | apply bN | apply bD | apply bA); exact BK174.out)) : gb212 ≠ gb174)); have n13_ := Aside0.mk ((by rw [hg]; exact Nat.ne_of_lt (blk_lt (g := gb178) (o := .cells #[.int .u32 t175, .int .i64 t176] 24 (0, 0)) (by (with_reducible repeat first | apply bN | apply bD | apply bA); exact BK178.out)) : gb178 ≠ gb212)); have n14_ := Aside0.mk ((by rw [hg]; exact Nat.ne_of_gt (blk_lt (g := gb178) (o := .cells #[.int .u32 t175, .int .i64 t176] 24 (0, 0)) (by (with_reducible repeat first | apply bN | apply bD | apply bA); exact BK178.out)) : gb212 ≠ gb178)); have n15_ := Aside0.mk ((by rw [hg]; exact Nat.ne_of_lt (blk_lt (g := gb182) (o := .cells #[.int .u32 t179, .int .i64 t180] 24 (0, 0)) (by (with_reducible repeat first | apply bN | apply bD | apply bA); exact BK182.out)) : gb182 ≠ gb212)); have n16_ := Aside0.mk ((by rw [hg]; exact Nat.ne_of_gt (blk_lt (g := gb182) (o := .cells #[.int .u32 t179, .int .i64 t180] 24 (0, 0)) (by (with_reducible repeat first | apply bN | apply bD | apply bA); exact BK182.out)) : gb212 ≠ gb182)); have n17_ := Aside0.mk ((by rw [hg]; exact Nat.ne_of_lt (blk_lt (g := gb203) (o := .cells #[.int .u32 t201, .int .i64 t202] 24 (0, 0)) (by (with_reducible repeat first | apply bN | apply bD | apply bA); exact BK203.out)) : gb203 ≠ gb212)); have n18_ := Aside0.mk ((by rw [hg]; exact Nat.ne_of_gt (blk_lt (g := gb203) (o := .cells #[.int .u32 t201, .int .i64 t202] 24 (0, 0)) (by (with_reducible repeat first | apply bN | apply bD | apply bA); exact BK203.out)) : gb212 ≠ gb203)); clear BK173; clear BK174; clear BK178; clear BK182; clear BK203; clear HB; have BK173 := n0_; have BK174 := n1_; have BK178 := n2_; have BK182 := n3_; have BK203 := n4_; have HB := n5_; have BK212 := n6_; have GW212 := n7_; have GE212 := n8_; have NB173_212 := n9_; have NB212_173 := n10_; have NB174_212 := n11_; have NB212_174 := n12_; have NB178_212 := n13_; have NB212_178 := n14_; have NB182_212 := n15_; have NB212_182 := n16_; have NB203_212 := n17_; have NB212_203 := n18_; clear n0_ n1_ n2_ n3_ n4_ n5_ n6_ n7_ n8_ n9_ n10_ n11_ n12_ n13_ n14_ n15_ n16_ n17_ n18_; clear hb hbox hg; have hnb584 := NB212_173.out; have hnc584 := NB173_212.out; have hnb585 := NB212_174.out; have hnc585 := NB174_212.out; have hnb586 := NB212_178.out; have hnc586 := NB178_212.out; have hnb587 := NB212_182.out; have hnc587 := NB182_212.out; have hnb588 := NB212_203.out; have hnc588 := NB203_212.out; have hcz589_0 : w583.cell? ⟨gb212, 0, none⟩ = some (.int .u32 0) := (blk_cell BK212.out 0).trans rfl; have hcz589_1 : w583.cell? ⟨gb212, 1, none⟩ = some (.int .i64 0) := (blk_cell BK212.out 1).trans rfl; have hfz589_0 := blk_frozen BK212.out 0; have hfz589_1 := blk_frozen BK212.out 1; have hnb590 := NB173_174.out; have hnc590 := NB174_173.out; have hnb591 := NB173_178.out; have hnc591 := NB178_173.out; have hnb592 := NB173_182.out; have hnc592 := NB182_173.out; have hcz593_0 : w583.cell? ⟨gb173, 0, none⟩ = some (.int .u32 t169) := (blk_cell BK173.out 0).trans rfl; have hcz593_1 : w583.cell? ⟨gb173, 1, none⟩ = some (.int .i64 t170) := (blk_cell BK173.out 1).trans rfl; have hfz593_0 := blk_frozen BK173.out 0; have hfz593_1 := blk_frozen BK173.out 1) | (go_at_call 19; (with_reducible refine (addr_Covers.calls t209 t210 t169 t170 false _ A527.out).mono ?_); rintro e w594 ⟨rfl, hb⟩; have n0_ := Aside0.mk (blk_below (g := gb173) (o := .cells #[.int .u32 t169, .int .i64 t170] 24 (0, 0)) (by (with_reducible repeat first | apply bN | apply bD | apply bA); refine blk_far ?_ NB173_212.out _; (with_reducible repeat first | apply bN | apply bD | apply bA); refine blk_far ?_ NB173_212.out _; (with_reducible repeat first | apply bN | apply bD | apply bA); exact BK173.out) hb); have n1_ := Aside0.mk (blk_below (g := gb174) (o := .cells #[.int .u32 t171, .int .i64 t172] 24 (0, 0)) (by (with_reducible repeat first | apply bN | apply bD | apply bA); refine blk_far ?_ NB174_212.out _; (with_reducible repeat first | apply bN | apply bD | apply bA); refine blk_far ?_ NB174_212.out _; (with_reducible repeat first | apply bN | apply bD | apply bA); exact BK174.out) hb); have n2_ := Aside0.mk (blk_below (g := gb178) (o := .cells #[.int .u32 t175, .int .i64 t176] 24 (0, 0)) (by (with_reducible repeat first | apply bN | apply bD | apply bA); refine blk_far ?_ NB178_212.out _; (with_reducible repeat first | apply bN | apply bD | apply bA); refine blk_far ?_ NB178_212.out _; (with_reducible repeat first | apply bN | apply bD | apply bA); exact BK178.out) hb); have n3_ := Aside0.mk (blk_below (g := gb182) (o := .cells #[.int .u32 t179, .int .i64 t180] 24 (0, 0)) (by (with_reducible repeat first | apply bN | apply bD | apply bA); refine blk_far ?_ NB182_212.out _; (with_reducible repeat first | apply bN | apply bD | apply bA); refine blk_far ?_ NB182_212.out _; (with_reducible repeat first | apply bN | apply bD | apply bA); exact BK182.out) hb); have n4_ := Aside0.mk (blk_below (g := gb203) (o := .cells #[.int .u32 t201, .int .i64 t202] 24 (0, 0)) (by (with_reducible repeat first | apply bN | apply bD | apply bA); refine blk_far ?_ NB203_212.out _; (with_reducible repeat first | apply bN | apply bD | apply bA); refine blk_far ?_ NB203_212.out _; (with_reducible repeat first | apply bN | apply bD | apply bA); exact BK203.out) hb); have n5_ := Aside0.mk (blk_below (g := gb212) (o := .cells #[.int .u32 t209, .int .i64 t210] 24 (0, 0)) (by (with_reducible repeat first | apply bN | apply bD | apply bA); refine blk_put (cs := #[.int .u32 t209, .int .i64 0]) ?_ 1 _ rfl; (with_reducible repeat first | apply bN | apply bD | apply bA); refine blk_put (cs := #[.int .u32 0, .int .i64 0]) ?_ 0 _ rfl; (with_reducible repeat first | apply bN | apply bD | apply bA); exact BK212.out) hb); have n6_ := Aside0.mk (below_step (by repeat (first | (with_reducible first | exact HB.out | apply lA | apply lN | apply lD | apply lS GE173.out | apply lS GE174.out | apply lS GE178.out | apply lS GE182.out | apply lS GE203.out | apply lS GE212.out) | exact HB.out)) hb); clear BK173; clear BK174; clear BK178; clear BK182; clear BK203; clear BK212; clear HB; have BK173 := n0_; have BK174 := n1_; have BK178 := n2_; have BK182 := n3_; have BK203 := n4_; have BK212 := n5_; have HB := n6_; clear n0_ n1_ n2_ n3_ n4_ n5_ n6_; (try clear hb)))
              go_roundg k4
              case measure => have := HJ8.out; have := HJ38.out; have := HJ482.out; have := HK4.out; omega
              case rel => exact ⟨(wrap64 (x20_4 + 1)), (by first | rfl | (simp; done) | (simp [*]; done)), H', ⟨by have := HJ8.out; have := HJ38.out; have := HJ482.out; have := HK4.out; omega⟩, ⟨by (with_reducible repeat first | apply bN | apply bD | apply bA); exact BK173.out⟩, ⟨by (with_reducible repeat first | apply bN | apply bD | apply bA); exact BK174.out⟩, ⟨by (with_reducible repeat first | apply bN | apply bD | apply bA); exact BK178.out⟩, ⟨by (with_reducible repeat first | apply bN | apply bD | apply bA); exact BK182.out⟩, ⟨by (with_reducible repeat first | apply bN | apply bD | apply bA); exact BK203.out⟩, ⟨by repeat (first | (with_reducible first | exact HB.out | apply lA | apply lN | apply lD | apply lS GE173.out | apply lS GE174.out | apply lS GE178.out | apply lS GE182.out | apply lS GE203.out | apply lS GE212.out) | exact HB.out)⟩⟩
            ·replace c526 := Bool.eq_false_iff.mpr c526
             subst c526
             have H1 : (signpostlaw1_AddrRules.l0 k4 (wrap64 (x20_4 + 1)) t169 t170 t171 t172 t201 t202) = some r := by rw [if_neg (show ¬ (false = true) by decide)] at H; exact H
             clear H
             have H := H1
             clear H1
             have H' := Aside0.mk H
             clear H
             have hnb595 := NB203_173.out
             have hnc595 := NB173_203.out
             have hnb596 := NB203_174.out
             have hnc596 := NB174_203.out
             have hnb597 := NB203_178.out
             have hnc597 := NB178_203.out
             have hnb598 := NB203_182.out
             have hnc598 := NB182_203.out
             have hcz599_0 : wr.cell? ⟨gb203, 0, none⟩ = some (.int .u32 t201) := (blk_cell BK203.out 0).trans rfl
             have hcz599_1 : wr.cell? ⟨gb203, 1, none⟩ = some (.int .i64 t202) := (blk_cell BK203.out 1).trans rfl
             have hfz599_0 := blk_frozen BK203.out 0
             have hfz599_1 := blk_frozen BK203.out 1
             go_wp2_with (first | ((with_reducible refine gate_callee (f := 23) rfl ?_); refine goesL_ (some 149) rfl rfl Tryd.func23 (by kernel_rfl) rfl #[.agg #[.int .u32 t201, .int .i64 t202], .bool (x20_4 == 1)] rfl (by (try simp only [List.map_toArray, List.map_cons, List.map_nil]); first | done | rfl) ?_; (with_reducible refine (addr_Half.calls k4 t201 t202 (x20_4 == 1) t209 t210 false _ A525.out).mono ?_); rintro e w600 ⟨rfl, hb⟩; refine ⟨_, rfl, ?_⟩; have n0_ := Aside0.mk (blk_below (g := gb173) (o := .cells #[.int .u32 t169, .int .i64 t170] 24 (0, 0)) (by (with_reducible repeat first | apply bN | apply bD | apply bA); exact BK173.out) hb); have n1_ := Aside0.mk (blk_below (g := gb174) (o := .cells #[.int .u32 t171, .int .i64 t172] 24 (0, 0)) (by (with_reducible repeat first | apply bN | apply bD | apply bA); exact BK174.out) hb); have n2_ := Aside0.mk (blk_below (g := gb178) (o := .cells #[.int .u32 t175, .int .i64 t176] 24 (0, 0)) (by (with_reducible repeat first | apply bN | apply bD | apply bA); exact BK178.out) hb); have n3_ := Aside0.mk (blk_below (g := gb182) (o := .cells #[.int .u32 t179, .int .i64 t180] 24 (0, 0)) (by (with_reducible repeat first | apply bN | apply bD | apply bA); exact BK182.out) hb); have n4_ := Aside0.mk (blk_below (g := gb203) (o := .cells #[.int .u32 t201, .int .i64 t202] 24 (0, 0)) (by (with_reducible repeat first | apply bN | apply bD | apply bA); exact BK203.out) hb); have n5_ := Aside0.mk (below_step (by repeat (first | (with_reducible first | exact HB.out | apply lA | apply lN | apply lD | apply lS GE173.out | apply lS GE174.out | apply lS GE178.out | apply lS GE182.out | apply lS GE203.out) | exact HB.out)) hb); clear BK173; clear BK174; clear BK178; clear BK182; clear BK203; clear HB; have BK173 := n0_; have BK174 := n1_; have BK178 := n2_; have BK182 := n3_; have BK203 := n4_; have HB := n5_; clear n0_ n1_ n2_ n3_ n4_ n5_; (try clear hb)) | ((with_reducible refine gate_dst (N := 21) rfl ?_); refine box_event ?hg (N := 21) ?hd (cs := #[.int .u32 0, .int .i64 0]) (t := 24) ?hr ?_; (case hd => rfl); (case hg => rfl); (case hr => first | (go_simp; done) | (go_simp; rfl)); intro gb212 hg w601 hbox hb; have n0_ := Aside0.mk (blk_below (g := gb173) (o := .cells #[.int .u32 t169, .int .i64 t170] 24 (0, 0)) (by (with_reducible repeat first | apply bN | apply bD | apply bA); exact BK173.out) hb); have n1_ := Aside0.mk (blk_below (g := gb174) (o := .cells #[.int .u32 t171, .int .i64 t172] 24 (0, 0)) (by (with_reducible repeat first | apply bN | apply bD | apply bA); exact BK174.out) hb); have n2_ := Aside0.mk (blk_below (g := gb178) (o := .cells #[.int .u32 t175, .int .i64 t176] 24 (0, 0)) (by (with_reducible repeat first | apply bN | apply bD | apply bA); exact BK178.out) hb); have n3_ := Aside0.mk (blk_below (g := gb182) (o := .cells #[.int .u32 t179, .int .i64 t180] 24 (0, 0)) (by (with_reducible repeat first | apply bN | apply bD | apply bA); exact BK182.out) hb); have n4_ := Aside0.mk (blk_below (g := gb203) (o := .cells #[.int .u32 t201, .int .i64 t202] 24 (0, 0)) (by (with_reducible repeat first | apply bN | apply bD | apply bA); exact BK203.out) hb); have n5_ := Aside0.mk (below_step (by repeat (first | (with_reducible first | exact HB.out | apply lA | apply lN | apply lD | apply lS GE173.out | apply lS GE174.out | apply lS GE178.out | apply lS GE182.out | apply lS GE203.out) | exact HB.out)) hb); have n6_ := Aside0.mk (hbox); have n7_ := Aside0.mk ((by rw [hg]; exact (below_size (by repeat (first | (with_reducible first | exact HB.out | apply lA | apply lN | apply lD | apply lS GE173.out | apply lS GE174.out | apply lS GE178.out | apply lS GE182.out | apply lS GE203.out) | exact HB.out))) : w.heap.size ≤ gb212)); have n8_ := Aside0.mk ((by rw [hg]; exact (below_size (by repeat (first | (with_reducible first | exact HB.out | apply lA | apply lN | apply lD | apply lS GE173.out | apply lS GE174.out | apply lS GE178.out | apply lS GE182.out | apply lS GE203.out) | exact HB.out))) : w.heap.size ≤ gb212)); have n9_ := Aside0.mk ((by rw [hg]; exact Nat.ne_of_lt (blk_lt (g := gb173) (o := .cells #[.int .u32 t169, .int .i64 t170] 24 (0, 0)) (by (with_reducible repeat first | apply bN | apply bD | apply bA); exact BK173.out)) : gb173 ≠ gb212)); have n10_ := Aside0.mk ((by rw [hg]; exact Nat.ne_of_gt (blk_lt (g := gb173) (o := .cells #[.int .u32 t169, .int .i64 t170] 24 (0, 0)) (by (with_reducible repeat first | apply bN | apply bD | apply bA); exact BK173.out)) : gb212 ≠ gb173)); have n11_ := Aside0.mk ((by rw [hg]; exact Nat.ne_of_lt (blk_lt (g := gb174) (o := .cells #[.int .u32 t171, .int .i64 t172] 24 (0, 0)) (by (with_reducible repeat first | apply bN | apply bD | apply bA); exact BK174.out)) : gb174 ≠ gb212)); have n12_ := Aside0.mk ((by rw [hg]; exact Nat.ne_of_gt (blk_lt (g := gb174) (o := .cells #[.int .u32 t171, .int .i64 t172] 24 (0, 0)) (by (with_reducible repeat first | apply bN | apply bD | apply bA); exact BK174.out)) : gb212 ≠ gb174)); have n13_ := Aside0.mk ((by rw [hg]; exact Nat.ne_of_lt (blk_lt (g := gb178) (o := .cells #[.int .u32 t175, .int .i64 t176] 24 (0, 0)) (by (with_reducible repeat first | apply bN | apply bD | apply bA); exact BK178.out)) : gb178 ≠ gb212)); have n14_ := Aside0.mk ((by rw [hg]; exact Nat.ne_of_gt (blk_lt (g := gb178) (o := .cells #[.int .u32 t175, .int .i64 t176] 24 (0, 0)) (by (with_reducible repeat first | apply bN | apply bD | apply bA); exact BK178.out)) : gb212 ≠ gb178)); have n15_ := Aside0.mk ((by rw [hg]; exact Nat.ne_of_lt (blk_lt (g := gb182) (o := .cells #[.int .u32 t179, .int .i64 t180] 24 (0, 0)) (by (with_reducible repeat first | apply bN | apply bD | apply bA); exact BK182.out)) : gb182 ≠ gb212)); have n16_ := Aside0.mk ((by rw [hg]; exact Nat.ne_of_gt (blk_lt (g := gb182) (o := .cells #[.int .u32 t179, .int .i64 t180] 24 (0, 0)) (by (with_reducible repeat first | apply bN | apply bD | apply bA); exact BK182.out)) : gb212 ≠ gb182)); have n17_ := Aside0.mk ((by rw [hg]; exact Nat.ne_of_lt (blk_lt (g := gb203) (o := .cells #[.int .u32 t201, .int .i64 t202] 24 (0, 0)) (by (with_reducible repeat first | apply bN | apply bD | apply bA); exact BK203.out)) : gb203 ≠ gb212)); have n18_ := Aside0.mk ((by rw [hg]; exact Nat.ne_of_gt (blk_lt (g := gb203) (o := .cells #[.int .u32 t201, .int .i64 t202] 24 (0, 0)) (by (with_reducible repeat first | apply bN | apply bD | apply bA); exact BK203.out)) : gb212 ≠ gb203)); clear BK173; clear BK174; clear BK178; clear BK182; clear BK203; clear HB; have BK173 := n0_; have BK174 := n1_; have BK178 := n2_; have BK182 := n3_; have BK203 := n4_; have HB := n5_; have BK212 := n6_; have GW212 := n7_; have GE212 := n8_; have NB173_212 := n9_; have NB212_173 := n10_; have NB174_212 := n11_; have NB212_174 := n12_; have NB178_212 := n13_; have NB212_178 := n14_; have NB182_212 := n15_; have NB212_182 := n16_; have NB203_212 := n17_; have NB212_203 := n18_; clear n0_ n1_ n2_ n3_ n4_ n5_ n6_ n7_ n8_ n9_ n10_ n11_ n12_ n13_ n14_ n15_ n16_ n17_ n18_; clear hb hbox hg; have hnb602 := NB212_173.out; have hnc602 := NB173_212.out; have hnb603 := NB212_174.out; have hnc603 := NB174_212.out; have hnb604 := NB212_178.out; have hnc604 := NB178_212.out; have hnb605 := NB212_182.out; have hnc605 := NB182_212.out; have hnb606 := NB212_203.out; have hnc606 := NB203_212.out; have hcz607_0 : w601.cell? ⟨gb212, 0, none⟩ = some (.int .u32 0) := (blk_cell BK212.out 0).trans rfl; have hcz607_1 : w601.cell? ⟨gb212, 1, none⟩ = some (.int .i64 0) := (blk_cell BK212.out 1).trans rfl; have hfz607_0 := blk_frozen BK212.out 0; have hfz607_1 := blk_frozen BK212.out 1))
             go_roundg k4
             case measure => have := HJ8.out; have := HJ38.out; have := HJ482.out; have := HK4.out; omega
             case rel => exact ⟨(wrap64 (x20_4 + 1)), (by first | rfl | (simp; done) | (simp [*]; done)), H', ⟨by have := HJ8.out; have := HJ38.out; have := HJ482.out; have := HK4.out; omega⟩, ⟨by (with_reducible repeat first | apply bN | apply bD | apply bA); refine blk_far ?_ NB173_212.out _; (with_reducible repeat first | apply bN | apply bD | apply bA); refine blk_far ?_ NB173_212.out _; (with_reducible repeat first | apply bN | apply bD | apply bA); exact BK173.out⟩, ⟨by (with_reducible repeat first | apply bN | apply bD | apply bA); refine blk_far ?_ NB174_212.out _; (with_reducible repeat first | apply bN | apply bD | apply bA); refine blk_far ?_ NB174_212.out _; (with_reducible repeat first | apply bN | apply bD | apply bA); exact BK174.out⟩, ⟨by (with_reducible repeat first | apply bN | apply bD | apply bA); refine blk_far ?_ NB178_212.out _; (with_reducible repeat first | apply bN | apply bD | apply bA); refine blk_far ?_ NB178_212.out _; (with_reducible repeat first | apply bN | apply bD | apply bA); exact BK178.out⟩, ⟨by (with_reducible repeat first | apply bN | apply bD | apply bA); refine blk_far ?_ NB182_212.out _; (with_reducible repeat first | apply bN | apply bD | apply bA); refine blk_far ?_ NB182_212.out _; (with_reducible repeat first | apply bN | apply bD | apply bA); exact BK182.out⟩, ⟨by (with_reducible repeat first | apply bN | apply bD | apply bA); refine blk_far ?_ NB203_212.out _; (with_reducible repeat first | apply bN | apply bD | apply bA); refine blk_far ?_ NB203_212.out _; (with_reducible repeat first | apply bN | apply bD | apply bA); exact BK203.out⟩, ⟨by repeat (first | (with_reducible first | exact HB.out | apply lA | apply lN | apply lD | apply lS GE173.out | apply lS GE174.out | apply lS GE178.out | apply lS GE182.out | apply lS GE203.out | apply lS GE212.out) | exact HB.out)⟩⟩
           ·rw [if_neg c524] at H
            have c524b0 : decide (x20_4 < 2) = false := decide_eq_false c524
            clear c524
            replace H := Option.bind_eq_some_iff.mp H
            obtain ⟨t215, A6080, H⟩ := H
            replace H : (if t215 = true then ((signpostlaw1_known.f).bind fun t216 => (some t216)) else ((addr_Covers.f t171 t172 t169 t170).bind fun t217 => (if t217 = true then ((signpostlaw1_known.f).bind fun t218 => (some t218)) else ((addr_Has.f t169 t170 t171).bind fun t219 => (if t219 = true then (some false) else ((addr_Has.f t171 t172 t169).bind fun t220 => (if t220 = true then (some false) else ((signpostlaw1_known.f).bind fun t221 => (some t221))))))))) = some r := H
            have A608 := Aside0.mk A6080
            clear A6080
            by_cases c609 : t215 = true
            ·subst c609
             have H1 : ((signpostlaw1_known.f).bind fun t216 => (some t216)) = some r := by rw [if_pos rfl] at H; exact H
             clear H
             have H := H1
             clear H1
             replace H := Option.bind_eq_some_iff.mp H
             obtain ⟨t216, A6100, H⟩ := H
             replace H : (some t216) = some r := H
             have A610 := Aside0.mk A6100
             clear A6100
             obtain rfl := Option.some.inj H
             have hnb611 := NB173_174.out
             have hnc611 := NB174_173.out
             have hnb612 := NB173_178.out
             have hnc612 := NB178_173.out
             have hnb613 := NB173_182.out
             have hnc613 := NB182_173.out
             have hnb614 := NB173_203.out
             have hnc614 := NB203_173.out
             have hcz615_0 : wr.cell? ⟨gb173, 0, none⟩ = some (.int .u32 t169) := (blk_cell BK173.out 0).trans rfl
             have hcz615_1 : wr.cell? ⟨gb173, 1, none⟩ = some (.int .i64 t170) := (blk_cell BK173.out 1).trans rfl
             have hfz615_0 := blk_frozen BK173.out 0
             have hfz615_1 := blk_frozen BK173.out 1
             have hnb616 := NB174_178.out
             have hnc616 := NB178_174.out
             have hnb617 := NB174_182.out
             have hnc617 := NB182_174.out
             have hnb618 := NB174_203.out
             have hnc618 := NB203_174.out
             have hcz619_0 : wr.cell? ⟨gb174, 0, none⟩ = some (.int .u32 t171) := (blk_cell BK174.out 0).trans rfl
             have hcz619_1 : wr.cell? ⟨gb174, 1, none⟩ = some (.int .i64 t172) := (blk_cell BK174.out 1).trans rfl
             have hfz619_0 := blk_frozen BK174.out 0
             have hfz619_1 := blk_frozen BK174.out 1
             go_wp2_with (first | ((with_reducible refine gate_callee (f := 19) rfl ?_); refine goesL_ (some 165) rfl rfl Tryd.func19 (by kernel_rfl) rfl #[.agg #[.int .u32 t169, .int .i64 t170], .agg #[.int .u32 t171, .int .i64 t172]] rfl (by (try simp only [List.map_toArray, List.map_cons, List.map_nil]); first | done | rfl) ?_; (with_reducible refine (addr_Covers.calls t169 t170 t171 t172 true _ A608.out).mono ?_); rintro e w620 ⟨rfl, hb⟩; refine ⟨_, rfl, ?_⟩; have n0_ := Aside0.mk (blk_below (g := gb173) (o := .cells #[.int .u32 t169, .int .i64 t170] 24 (0, 0)) (by (with_reducible repeat first | apply bN | apply bD | apply bA); exact BK173.out) hb); have n1_ := Aside0.mk (blk_below (g := gb174) (o := .cells #[.int .u32 t171, .int .i64 t172] 24 (0, 0)) (by (with_reducible repeat first | apply bN | apply bD | apply bA); exact BK174.out) hb); have n2_ := Aside0.mk (blk_below (g := gb178) (o := .cells #[.int .u32 t175, .int .i64 t176] 24 (0, 0)) (by (with_reducible repeat first | apply bN | apply bD | apply bA); exact BK178.out) hb); have n3_ := Aside0.mk (blk_below (g := gb182) (o := .cells #[.int .u32 t179, .int .i64 t180] 24 (0, 0)) (by (with_reducible repeat first | apply bN | apply bD | apply bA); exact BK182.out) hb); have n4_ := Aside0.mk (blk_below (g := gb203) (o := .cells #[.int .u32 t201, .int .i64 t202] 24 (0, 0)) (by (with_reducible repeat first | apply bN | apply bD | apply bA); exact BK203.out) hb); have n5_ := Aside0.mk (below_step (by repeat (first | (with_reducible first | exact HB.out | apply lA | apply lN | apply lD | apply lS GE173.out | apply lS GE174.out | apply lS GE178.out | apply lS GE182.out | apply lS GE203.out) | exact HB.out)) hb); clear BK173; clear BK174; clear BK178; clear BK182; clear BK203; clear HB; have BK173 := n0_; have BK174 := n1_; have BK178 := n2_; have BK182 := n3_; have BK203 := n4_; have HB := n5_; clear n0_ n1_ n2_ n3_ n4_ n5_; (try clear hb)) | (go_at_call 15; (with_reducible refine (signpostlaw1_known.calls  t216 _ (HENV.out.below (by repeat (first | (with_reducible first | exact HB.out | apply lA | apply lN | apply lD | apply lS GE173.out | apply lS GE174.out | apply lS GE178.out | apply lS GE182.out | apply lS GE203.out) | exact HB.out))) A610.out).mono ?_); rintro e w621 ⟨rfl, hb⟩; have n0_ := Aside0.mk (blk_below (g := gb173) (o := .cells #[.int .u32 t169, .int .i64 t170] 24 (0, 0)) (by (with_reducible repeat first | apply bN | apply bD | apply bA); exact BK173.out) hb); have n1_ := Aside0.mk (blk_below (g := gb174) (o := .cells #[.int .u32 t171, .int .i64 t172] 24 (0, 0)) (by (with_reducible repeat first | apply bN | apply bD | apply bA); exact BK174.out) hb); have n2_ := Aside0.mk (blk_below (g := gb178) (o := .cells #[.int .u32 t175, .int .i64 t176] 24 (0, 0)) (by (with_reducible repeat first | apply bN | apply bD | apply bA); exact BK178.out) hb); have n3_ := Aside0.mk (blk_below (g := gb182) (o := .cells #[.int .u32 t179, .int .i64 t180] 24 (0, 0)) (by (with_reducible repeat first | apply bN | apply bD | apply bA); exact BK182.out) hb); have n4_ := Aside0.mk (blk_below (g := gb203) (o := .cells #[.int .u32 t201, .int .i64 t202] 24 (0, 0)) (by (with_reducible repeat first | apply bN | apply bD | apply bA); exact BK203.out) hb); have n5_ := Aside0.mk (below_step (by repeat (first | (with_reducible first | exact HB.out | apply lA | apply lN | apply lD | apply lS GE173.out | apply lS GE174.out | apply lS GE178.out | apply lS GE182.out | apply lS GE203.out) | exact HB.out)) hb); clear BK173; clear BK174; clear BK178; clear BK182; clear BK203; clear HB; have BK173 := n0_; have BK174 := n1_; have BK178 := n2_; have BK182 := n3_; have BK203 := n4_; have HB := n5_; clear n0_ n1_ n2_ n3_ n4_ n5_; (try clear hb)))
             go_ret
             exact ⟨by first | rfl | (simp [errW_none, errW_some] <;> rfl) | (simp [*, errW_none, errW_some] <;> rfl), by repeat (first | (with_reducible first | exact HB.out | apply lA | apply lN | apply lD | apply lS GE173.out | apply lS GE174.out | apply lS GE178.out | apply lS GE182.out | apply lS GE203.out) | exact HB.out)⟩
            ·replace c609 := Bool.eq_false_iff.mpr c609
             subst c609
             have H1 : ((addr_Covers.f t171 t172 t169 t170).bind fun t217 => (if t217 = true then ((signpostlaw1_known.f).bind fun t218 => (some t218)) else ((addr_Has.f t169 t170 t171).bind fun t219 => (if t219 = true then (some false) else ((addr_Has.f t171 t172 t169).bind fun t220 => (if t220 = true then (some false) else ((signpostlaw1_known.f).bind fun t221 => (some t221)))))))) = some r := by rw [if_neg (show ¬ (false = true) by decide)] at H; exact H
             clear H
             have H := H1
             clear H1
             replace H := Option.bind_eq_some_iff.mp H
             obtain ⟨t217, A6220, H⟩ := H
             replace H : (if t217 = true then ((signpostlaw1_known.f).bind fun t218 => (some t218)) else ((addr_Has.f t169 t170 t171).bind fun t219 => (if t219 = true then (some false) else ((addr_Has.f t171 t172 t169).bind fun t220 => (if t220 = true then (some false) else ((signpostlaw1_known.f).bind fun t221 => (some t221))))))) = some r := H
             have A622 := Aside0.mk A6220
             clear A6220
             by_cases c623 : t217 = true
             ·subst c623
              have H1 : ((signpostlaw1_known.f).bind fun t218 => (some t218)) = some r := by rw [if_pos rfl] at H; exact H
              clear H
              have H := H1
              clear H1
              replace H := Option.bind_eq_some_iff.mp H
              obtain ⟨t218, A6240, H⟩ := H
              replace H : (some t218) = some r := H
              have A624 := Aside0.mk A6240
              clear A6240
              obtain rfl := Option.some.inj H
              have hnb625 := NB173_174.out
              have hnc625 := NB174_173.out
              have hnb626 := NB173_178.out
              have hnc626 := NB178_173.out
              have hnb627 := NB173_182.out
              have hnc627 := NB182_173.out
              have hnb628 := NB173_203.out
              have hnc628 := NB203_173.out
              have hcz629_0 : wr.cell? ⟨gb173, 0, none⟩ = some (.int .u32 t169) := (blk_cell BK173.out 0).trans rfl
              have hcz629_1 : wr.cell? ⟨gb173, 1, none⟩ = some (.int .i64 t170) := (blk_cell BK173.out 1).trans rfl
              have hfz629_0 := blk_frozen BK173.out 0
              have hfz629_1 := blk_frozen BK173.out 1
              have hnb630 := NB174_178.out
              have hnc630 := NB178_174.out
              have hnb631 := NB174_182.out
              have hnc631 := NB182_174.out
              have hnb632 := NB174_203.out
              have hnc632 := NB203_174.out
              have hcz633_0 : wr.cell? ⟨gb174, 0, none⟩ = some (.int .u32 t171) := (blk_cell BK174.out 0).trans rfl
              have hcz633_1 : wr.cell? ⟨gb174, 1, none⟩ = some (.int .i64 t172) := (blk_cell BK174.out 1).trans rfl
              have hfz633_0 := blk_frozen BK174.out 0
              have hfz633_1 := blk_frozen BK174.out 1
              go_wp2_with (first | ((with_reducible refine gate_callee (f := 19) rfl ?_); refine goesL_ (some 165) rfl rfl Tryd.func19 (by kernel_rfl) rfl #[.agg #[.int .u32 t169, .int .i64 t170], .agg #[.int .u32 t171, .int .i64 t172]] rfl (by (try simp only [List.map_toArray, List.map_cons, List.map_nil]); first | done | rfl) ?_; (with_reducible refine (addr_Covers.calls t169 t170 t171 t172 false _ A608.out).mono ?_); rintro e w634 ⟨rfl, hb⟩; refine ⟨_, rfl, ?_⟩; have n0_ := Aside0.mk (blk_below (g := gb173) (o := .cells #[.int .u32 t169, .int .i64 t170] 24 (0, 0)) (by (with_reducible repeat first | apply bN | apply bD | apply bA); exact BK173.out) hb); have n1_ := Aside0.mk (blk_below (g := gb174) (o := .cells #[.int .u32 t171, .int .i64 t172] 24 (0, 0)) (by (with_reducible repeat first | apply bN | apply bD | apply bA); exact BK174.out) hb); have n2_ := Aside0.mk (blk_below (g := gb178) (o := .cells #[.int .u32 t175, .int .i64 t176] 24 (0, 0)) (by (with_reducible repeat first | apply bN | apply bD | apply bA); exact BK178.out) hb); have n3_ := Aside0.mk (blk_below (g := gb182) (o := .cells #[.int .u32 t179, .int .i64 t180] 24 (0, 0)) (by (with_reducible repeat first | apply bN | apply bD | apply bA); exact BK182.out) hb); have n4_ := Aside0.mk (blk_below (g := gb203) (o := .cells #[.int .u32 t201, .int .i64 t202] 24 (0, 0)) (by (with_reducible repeat first | apply bN | apply bD | apply bA); exact BK203.out) hb); have n5_ := Aside0.mk (below_step (by repeat (first | (with_reducible first | exact HB.out | apply lA | apply lN | apply lD | apply lS GE173.out | apply lS GE174.out | apply lS GE178.out | apply lS GE182.out | apply lS GE203.out) | exact HB.out)) hb); clear BK173; clear BK174; clear BK178; clear BK182; clear BK203; clear HB; have BK173 := n0_; have BK174 := n1_; have BK178 := n2_; have BK182 := n3_; have BK203 := n4_; have HB := n5_; clear n0_ n1_ n2_ n3_ n4_ n5_; (try clear hb); have hcz635_0 : w634.cell? ⟨gb174, 0, none⟩ = some (.int .u32 t171) := (blk_cell BK174.out 0).trans rfl; have hcz635_1 : w634.cell? ⟨gb174, 1, none⟩ = some (.int .i64 t172) := (blk_cell BK174.out 1).trans rfl; have hfz635_0 := blk_frozen BK174.out 0; have hfz635_1 := blk_frozen BK174.out 1; have hcz636_0 : w634.cell? ⟨gb173, 0, none⟩ = some (.int .u32 t169) := (blk_cell BK173.out 0).trans rfl; have hcz636_1 : w634.cell? ⟨gb173, 1, none⟩ = some (.int .i64 t170) := (blk_cell BK173.out 1).trans rfl; have hfz636_0 := blk_frozen BK173.out 0; have hfz636_1 := blk_frozen BK173.out 1) | (go_at_call 19; (with_reducible refine (addr_Covers.calls t171 t172 t169 t170 true _ A622.out).mono ?_); rintro e w637 ⟨rfl, hb⟩; have n0_ := Aside0.mk (blk_below (g := gb173) (o := .cells #[.int .u32 t169, .int .i64 t170] 24 (0, 0)) (by (with_reducible repeat first | apply bN | apply bD | apply bA); exact BK173.out) hb); have n1_ := Aside0.mk (blk_below (g := gb174) (o := .cells #[.int .u32 t171, .int .i64 t172] 24 (0, 0)) (by (with_reducible repeat first | apply bN | apply bD | apply bA); exact BK174.out) hb); have n2_ := Aside0.mk (blk_below (g := gb178) (o := .cells #[.int .u32 t175, .int .i64 t176] 24 (0, 0)) (by (with_reducible repeat first | apply bN | apply bD | apply bA); exact BK178.out) hb); have n3_ := Aside0.mk (blk_below (g := gb182) (o := .cells #[.int .u32 t179, .int .i64 t180] 24 (0, 0)) (by (with_reducible repeat first | apply bN | apply bD | apply bA); exact BK182.out) hb); have n4_ := Aside0.mk (blk_below (g := gb203) (o := .cells #[.int .u32 t201, .int .i64 t202] 24 (0, 0)) (by (with_reducible repeat first | apply bN | apply bD | apply bA); exact BK203.out) hb); have n5_ := Aside0.mk (below_step (by repeat (first | (with_reducible first | exact HB.out | apply lA | apply lN | apply lD | apply lS GE173.out | apply lS GE174.out | apply lS GE178.out | apply lS GE182.out | apply lS GE203.out) | exact HB.out)) hb); clear BK173; clear BK174; clear BK178; clear BK182; clear BK203; clear HB; have BK173 := n0_; have BK174 := n1_; have BK178 := n2_; have BK182 := n3_; have BK203 := n4_; have HB := n5_; clear n0_ n1_ n2_ n3_ n4_ n5_; (try clear hb)) | (go_at_call 15; (with_reducible refine (signpostlaw1_known.calls  t218 _ (HENV.out.below (by repeat (first | (with_reducible first | exact HB.out | apply lA | apply lN | apply lD | apply lS GE173.out | apply lS GE174.out | apply lS GE178.out | apply lS GE182.out | apply lS GE203.out) | exact HB.out))) A624.out).mono ?_); rintro e w638 ⟨rfl, hb⟩; have n0_ := Aside0.mk (blk_below (g := gb173) (o := .cells #[.int .u32 t169, .int .i64 t170] 24 (0, 0)) (by (with_reducible repeat first | apply bN | apply bD | apply bA); exact BK173.out) hb); have n1_ := Aside0.mk (blk_below (g := gb174) (o := .cells #[.int .u32 t171, .int .i64 t172] 24 (0, 0)) (by (with_reducible repeat first | apply bN | apply bD | apply bA); exact BK174.out) hb); have n2_ := Aside0.mk (blk_below (g := gb178) (o := .cells #[.int .u32 t175, .int .i64 t176] 24 (0, 0)) (by (with_reducible repeat first | apply bN | apply bD | apply bA); exact BK178.out) hb); have n3_ := Aside0.mk (blk_below (g := gb182) (o := .cells #[.int .u32 t179, .int .i64 t180] 24 (0, 0)) (by (with_reducible repeat first | apply bN | apply bD | apply bA); exact BK182.out) hb); have n4_ := Aside0.mk (blk_below (g := gb203) (o := .cells #[.int .u32 t201, .int .i64 t202] 24 (0, 0)) (by (with_reducible repeat first | apply bN | apply bD | apply bA); exact BK203.out) hb); have n5_ := Aside0.mk (below_step (by repeat (first | (with_reducible first | exact HB.out | apply lA | apply lN | apply lD | apply lS GE173.out | apply lS GE174.out | apply lS GE178.out | apply lS GE182.out | apply lS GE203.out) | exact HB.out)) hb); clear BK173; clear BK174; clear BK178; clear BK182; clear BK203; clear HB; have BK173 := n0_; have BK174 := n1_; have BK178 := n2_; have BK182 := n3_; have BK203 := n4_; have HB := n5_; clear n0_ n1_ n2_ n3_ n4_ n5_; (try clear hb)))
              go_ret
              exact ⟨by first | rfl | (simp [errW_none, errW_some] <;> rfl) | (simp [*, errW_none, errW_some] <;> rfl), by repeat (first | (with_reducible first | exact HB.out | apply lA | apply lN | apply lD | apply lS GE173.out | apply lS GE174.out | apply lS GE178.out | apply lS GE182.out | apply lS GE203.out) | exact HB.out)⟩
             ·replace c623 := Bool.eq_false_iff.mpr c623
              subst c623
              have H1 : ((addr_Has.f t169 t170 t171).bind fun t219 => (if t219 = true then (some false) else ((addr_Has.f t171 t172 t169).bind fun t220 => (if t220 = true then (some false) else ((signpostlaw1_known.f).bind fun t221 => (some t221)))))) = some r := by rw [if_neg (show ¬ (false = true) by decide)] at H; exact H
              clear H
              have H := H1
              clear H1
              replace H := Option.bind_eq_some_iff.mp H
              obtain ⟨t219, A6390, H⟩ := H
              replace H : (if t219 = true then (some false) else ((addr_Has.f t171 t172 t169).bind fun t220 => (if t220 = true then (some false) else ((signpostlaw1_known.f).bind fun t221 => (some t221))))) = some r := H
              have A639 := Aside0.mk A6390
              clear A6390
              by_cases c640 : t219 = true
              ·subst c640
               have H1 : (some false) = some r := by rw [if_pos rfl] at H; exact H
               clear H
               have H := H1
               clear H1
               exact absurd ((Option.some.inj H).trans hr) (by decide)
              ·replace c640 := Bool.eq_false_iff.mpr c640
               subst c640
               have H1 : ((addr_Has.f t171 t172 t169).bind fun t220 => (if t220 = true then (some false) else ((signpostlaw1_known.f).bind fun t221 => (some t221)))) = some r := by rw [if_neg (show ¬ (false = true) by decide)] at H; exact H
               clear H
               have H := H1
               clear H1
               replace H := Option.bind_eq_some_iff.mp H
               obtain ⟨t220, A6570, H⟩ := H
               replace H : (if t220 = true then (some false) else ((signpostlaw1_known.f).bind fun t221 => (some t221))) = some r := H
               have A657 := Aside0.mk A6570
               clear A6570
               by_cases c658 : t220 = true
               ·subst c658
                have H1 : (some false) = some r := by rw [if_pos rfl] at H; exact H
                clear H
                have H := H1
                clear H1
                exact absurd ((Option.some.inj H).trans hr) (by decide)
               ·replace c658 := Bool.eq_false_iff.mpr c658
                subst c658
                have H1 : ((signpostlaw1_known.f).bind fun t221 => (some t221)) = some r := by rw [if_neg (show ¬ (false = true) by decide)] at H; exact H
                clear H
                have H := H1
                clear H1
                replace H := Option.bind_eq_some_iff.mp H
                obtain ⟨t221, A6780, H⟩ := H
                replace H : (some t221) = some r := H
                have A678 := Aside0.mk A6780
                clear A6780
                obtain rfl := Option.some.inj H
                have hnb679 := NB173_174.out
                have hnc679 := NB174_173.out
                have hnb680 := NB173_178.out
                have hnc680 := NB178_173.out
                have hnb681 := NB173_182.out
                have hnc681 := NB182_173.out
                have hnb682 := NB173_203.out
                have hnc682 := NB203_173.out
                have hcz683_0 : wr.cell? ⟨gb173, 0, none⟩ = some (.int .u32 t169) := (blk_cell BK173.out 0).trans rfl
                have hcz683_1 : wr.cell? ⟨gb173, 1, none⟩ = some (.int .i64 t170) := (blk_cell BK173.out 1).trans rfl
                have hfz683_0 := blk_frozen BK173.out 0
                have hfz683_1 := blk_frozen BK173.out 1
                have hnb684 := NB174_178.out
                have hnc684 := NB178_174.out
                have hnb685 := NB174_182.out
                have hnc685 := NB182_174.out
                have hnb686 := NB174_203.out
                have hnc686 := NB203_174.out
                have hcz687_0 : wr.cell? ⟨gb174, 0, none⟩ = some (.int .u32 t171) := (blk_cell BK174.out 0).trans rfl
                have hcz687_1 : wr.cell? ⟨gb174, 1, none⟩ = some (.int .i64 t172) := (blk_cell BK174.out 1).trans rfl
                have hfz687_0 := blk_frozen BK174.out 0
                have hfz687_1 := blk_frozen BK174.out 1
                go_wp2_with (first | ((with_reducible refine gate_callee (f := 19) rfl ?_); refine goesL_ (some 165) rfl rfl Tryd.func19 (by kernel_rfl) rfl #[.agg #[.int .u32 t169, .int .i64 t170], .agg #[.int .u32 t171, .int .i64 t172]] rfl (by (try simp only [List.map_toArray, List.map_cons, List.map_nil]); first | done | rfl) ?_; (with_reducible refine (addr_Covers.calls t169 t170 t171 t172 false _ A608.out).mono ?_); rintro e w688 ⟨rfl, hb⟩; refine ⟨_, rfl, ?_⟩; have n0_ := Aside0.mk (blk_below (g := gb173) (o := .cells #[.int .u32 t169, .int .i64 t170] 24 (0, 0)) (by (with_reducible repeat first | apply bN | apply bD | apply bA); exact BK173.out) hb); have n1_ := Aside0.mk (blk_below (g := gb174) (o := .cells #[.int .u32 t171, .int .i64 t172] 24 (0, 0)) (by (with_reducible repeat first | apply bN | apply bD | apply bA); exact BK174.out) hb); have n2_ := Aside0.mk (blk_below (g := gb178) (o := .cells #[.int .u32 t175, .int .i64 t176] 24 (0, 0)) (by (with_reducible repeat first | apply bN | apply bD | apply bA); exact BK178.out) hb); have n3_ := Aside0.mk (blk_below (g := gb182) (o := .cells #[.int .u32 t179, .int .i64 t180] 24 (0, 0)) (by (with_reducible repeat first | apply bN | apply bD | apply bA); exact BK182.out) hb); have n4_ := Aside0.mk (blk_below (g := gb203) (o := .cells #[.int .u32 t201, .int .i64 t202] 24 (0, 0)) (by (with_reducible repeat first | apply bN | apply bD | apply bA); exact BK203.out) hb); have n5_ := Aside0.mk (below_step (by repeat (first | (with_reducible first | exact HB.out | apply lA | apply lN | apply lD | apply lS GE173.out | apply lS GE174.out | apply lS GE178.out | apply lS GE182.out | apply lS GE203.out) | exact HB.out)) hb); clear BK173; clear BK174; clear BK178; clear BK182; clear BK203; clear HB; have BK173 := n0_; have BK174 := n1_; have BK178 := n2_; have BK182 := n3_; have BK203 := n4_; have HB := n5_; clear n0_ n1_ n2_ n3_ n4_ n5_; (try clear hb); have hcz689_0 : w688.cell? ⟨gb174, 0, none⟩ = some (.int .u32 t171) := (blk_cell BK174.out 0).trans rfl; have hcz689_1 : w688.cell? ⟨gb174, 1, none⟩ = some (.int .i64 t172) := (blk_cell BK174.out 1).trans rfl; have hfz689_0 := blk_frozen BK174.out 0; have hfz689_1 := blk_frozen BK174.out 1; have hcz690_0 : w688.cell? ⟨gb173, 0, none⟩ = some (.int .u32 t169) := (blk_cell BK173.out 0).trans rfl; have hcz690_1 : w688.cell? ⟨gb173, 1, none⟩ = some (.int .i64 t170) := (blk_cell BK173.out 1).trans rfl; have hfz690_0 := blk_frozen BK173.out 0; have hfz690_1 := blk_frozen BK173.out 1) | (go_at_call 19; (with_reducible refine (addr_Covers.calls t171 t172 t169 t170 false _ A622.out).mono ?_); rintro e w691 ⟨rfl, hb⟩; have n0_ := Aside0.mk (blk_below (g := gb173) (o := .cells #[.int .u32 t169, .int .i64 t170] 24 (0, 0)) (by (with_reducible repeat first | apply bN | apply bD | apply bA); exact BK173.out) hb); have n1_ := Aside0.mk (blk_below (g := gb174) (o := .cells #[.int .u32 t171, .int .i64 t172] 24 (0, 0)) (by (with_reducible repeat first | apply bN | apply bD | apply bA); exact BK174.out) hb); have n2_ := Aside0.mk (blk_below (g := gb178) (o := .cells #[.int .u32 t175, .int .i64 t176] 24 (0, 0)) (by (with_reducible repeat first | apply bN | apply bD | apply bA); exact BK178.out) hb); have n3_ := Aside0.mk (blk_below (g := gb182) (o := .cells #[.int .u32 t179, .int .i64 t180] 24 (0, 0)) (by (with_reducible repeat first | apply bN | apply bD | apply bA); exact BK182.out) hb); have n4_ := Aside0.mk (blk_below (g := gb203) (o := .cells #[.int .u32 t201, .int .i64 t202] 24 (0, 0)) (by (with_reducible repeat first | apply bN | apply bD | apply bA); exact BK203.out) hb); have n5_ := Aside0.mk (below_step (by repeat (first | (with_reducible first | exact HB.out | apply lA | apply lN | apply lD | apply lS GE173.out | apply lS GE174.out | apply lS GE178.out | apply lS GE182.out | apply lS GE203.out) | exact HB.out)) hb); clear BK173; clear BK174; clear BK178; clear BK182; clear BK203; clear HB; have BK173 := n0_; have BK174 := n1_; have BK178 := n2_; have BK182 := n3_; have BK203 := n4_; have HB := n5_; clear n0_ n1_ n2_ n3_ n4_ n5_; (try clear hb); have hcz692_0 : w691.cell? ⟨gb173, 0, none⟩ = some (.int .u32 t169) := (blk_cell BK173.out 0).trans rfl; have hcz692_1 : w691.cell? ⟨gb173, 1, none⟩ = some (.int .i64 t170) := (blk_cell BK173.out 1).trans rfl; have hfz692_0 := blk_frozen BK173.out 0; have hfz692_1 := blk_frozen BK173.out 1; have hcz693_0 : w691.cell? ⟨gb174, 0, none⟩ = some (.int .u32 t171) := (blk_cell BK174.out 0).trans rfl; have hcz693_1 : w691.cell? ⟨gb174, 1, none⟩ = some (.int .i64 t172) := (blk_cell BK174.out 1).trans rfl; have hfz693_0 := blk_frozen BK174.out 0; have hfz693_1 := blk_frozen BK174.out 1) | (go_at_call 17; (with_reducible refine (addr_Has.calls t169 t170 t171 false _ A639.out).mono ?_); rintro e w694 ⟨rfl, hb⟩; have n0_ := Aside0.mk (blk_below (g := gb173) (o := .cells #[.int .u32 t169, .int .i64 t170] 24 (0, 0)) (by (with_reducible repeat first | apply bN | apply bD | apply bA); exact BK173.out) hb); have n1_ := Aside0.mk (blk_below (g := gb174) (o := .cells #[.int .u32 t171, .int .i64 t172] 24 (0, 0)) (by (with_reducible repeat first | apply bN | apply bD | apply bA); exact BK174.out) hb); have n2_ := Aside0.mk (blk_below (g := gb178) (o := .cells #[.int .u32 t175, .int .i64 t176] 24 (0, 0)) (by (with_reducible repeat first | apply bN | apply bD | apply bA); exact BK178.out) hb); have n3_ := Aside0.mk (blk_below (g := gb182) (o := .cells #[.int .u32 t179, .int .i64 t180] 24 (0, 0)) (by (with_reducible repeat first | apply bN | apply bD | apply bA); exact BK182.out) hb); have n4_ := Aside0.mk (blk_below (g := gb203) (o := .cells #[.int .u32 t201, .int .i64 t202] 24 (0, 0)) (by (with_reducible repeat first | apply bN | apply bD | apply bA); exact BK203.out) hb); have n5_ := Aside0.mk (below_step (by repeat (first | (with_reducible first | exact HB.out | apply lA | apply lN | apply lD | apply lS GE173.out | apply lS GE174.out | apply lS GE178.out | apply lS GE182.out | apply lS GE203.out) | exact HB.out)) hb); clear BK173; clear BK174; clear BK178; clear BK182; clear BK203; clear HB; have BK173 := n0_; have BK174 := n1_; have BK178 := n2_; have BK182 := n3_; have BK203 := n4_; have HB := n5_; clear n0_ n1_ n2_ n3_ n4_ n5_; (try clear hb); have hcz695_0 : w694.cell? ⟨gb174, 0, none⟩ = some (.int .u32 t171) := (blk_cell BK174.out 0).trans rfl; have hcz695_1 : w694.cell? ⟨gb174, 1, none⟩ = some (.int .i64 t172) := (blk_cell BK174.out 1).trans rfl; have hfz695_0 := blk_frozen BK174.out 0; have hfz695_1 := blk_frozen BK174.out 1; have hcz696_0 : w694.cell? ⟨gb173, 0, none⟩ = some (.int .u32 t169) := (blk_cell BK173.out 0).trans rfl; have hcz696_1 : w694.cell? ⟨gb173, 1, none⟩ = some (.int .i64 t170) := (blk_cell BK173.out 1).trans rfl; have hfz696_0 := blk_frozen BK173.out 0; have hfz696_1 := blk_frozen BK173.out 1) | (go_at_call 17; (with_reducible refine (addr_Has.calls t171 t172 t169 false _ A657.out).mono ?_); rintro e w697 ⟨rfl, hb⟩; have n0_ := Aside0.mk (blk_below (g := gb173) (o := .cells #[.int .u32 t169, .int .i64 t170] 24 (0, 0)) (by (with_reducible repeat first | apply bN | apply bD | apply bA); exact BK173.out) hb); have n1_ := Aside0.mk (blk_below (g := gb174) (o := .cells #[.int .u32 t171, .int .i64 t172] 24 (0, 0)) (by (with_reducible repeat first | apply bN | apply bD | apply bA); exact BK174.out) hb); have n2_ := Aside0.mk (blk_below (g := gb178) (o := .cells #[.int .u32 t175, .int .i64 t176] 24 (0, 0)) (by (with_reducible repeat first | apply bN | apply bD | apply bA); exact BK178.out) hb); have n3_ := Aside0.mk (blk_below (g := gb182) (o := .cells #[.int .u32 t179, .int .i64 t180] 24 (0, 0)) (by (with_reducible repeat first | apply bN | apply bD | apply bA); exact BK182.out) hb); have n4_ := Aside0.mk (blk_below (g := gb203) (o := .cells #[.int .u32 t201, .int .i64 t202] 24 (0, 0)) (by (with_reducible repeat first | apply bN | apply bD | apply bA); exact BK203.out) hb); have n5_ := Aside0.mk (below_step (by repeat (first | (with_reducible first | exact HB.out | apply lA | apply lN | apply lD | apply lS GE173.out | apply lS GE174.out | apply lS GE178.out | apply lS GE182.out | apply lS GE203.out) | exact HB.out)) hb); clear BK173; clear BK174; clear BK178; clear BK182; clear BK203; clear HB; have BK173 := n0_; have BK174 := n1_; have BK178 := n2_; have BK182 := n3_; have BK203 := n4_; have HB := n5_; clear n0_ n1_ n2_ n3_ n4_ n5_; (try clear hb)) | (go_at_call 15; (with_reducible refine (signpostlaw1_known.calls  t221 _ (HENV.out.below (by repeat (first | (with_reducible first | exact HB.out | apply lA | apply lN | apply lD | apply lS GE173.out | apply lS GE174.out | apply lS GE178.out | apply lS GE182.out | apply lS GE203.out) | exact HB.out))) A678.out).mono ?_); rintro e w698 ⟨rfl, hb⟩; have n0_ := Aside0.mk (blk_below (g := gb173) (o := .cells #[.int .u32 t169, .int .i64 t170] 24 (0, 0)) (by (with_reducible repeat first | apply bN | apply bD | apply bA); exact BK173.out) hb); have n1_ := Aside0.mk (blk_below (g := gb174) (o := .cells #[.int .u32 t171, .int .i64 t172] 24 (0, 0)) (by (with_reducible repeat first | apply bN | apply bD | apply bA); exact BK174.out) hb); have n2_ := Aside0.mk (blk_below (g := gb178) (o := .cells #[.int .u32 t175, .int .i64 t176] 24 (0, 0)) (by (with_reducible repeat first | apply bN | apply bD | apply bA); exact BK178.out) hb); have n3_ := Aside0.mk (blk_below (g := gb182) (o := .cells #[.int .u32 t179, .int .i64 t180] 24 (0, 0)) (by (with_reducible repeat first | apply bN | apply bD | apply bA); exact BK182.out) hb); have n4_ := Aside0.mk (blk_below (g := gb203) (o := .cells #[.int .u32 t201, .int .i64 t202] 24 (0, 0)) (by (with_reducible repeat first | apply bN | apply bD | apply bA); exact BK203.out) hb); have n5_ := Aside0.mk (below_step (by repeat (first | (with_reducible first | exact HB.out | apply lA | apply lN | apply lD | apply lS GE173.out | apply lS GE174.out | apply lS GE178.out | apply lS GE182.out | apply lS GE203.out) | exact HB.out)) hb); clear BK173; clear BK174; clear BK178; clear BK182; clear BK203; clear HB; have BK173 := n0_; have BK174 := n1_; have BK178 := n2_; have BK182 := n3_; have BK203 := n4_; have HB := n5_; clear n0_ n1_ n2_ n3_ n4_ n5_; (try clear hb)))
                go_ret
                exact ⟨by first | rfl | (simp [errW_none, errW_some] <;> rfl) | (simp [*, errW_none, errW_some] <;> rfl), by repeat (first | (with_reducible first | exact HB.out | apply lA | apply lN | apply lD | apply lS GE173.out | apply lS GE174.out | apply lS GE178.out | apply lS GE182.out | apply lS GE203.out) | exact HB.out)⟩
end Go.Proofs.YtokfgajfkopelaaDoor.BP
