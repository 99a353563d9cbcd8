/- Up again and again a prefix comes to the whole, each time one shorter, covering all ahead; half after half, by the bits of an address, it comes to that address: whatever the address and the number. -/
import Derived.Below
import Derived.ChangeOld
import Derived.Deep.DeepHandedRow
import Derived.Lib.LaidTab
import Derived.OpenShut
import Derived.ProofKit
import Derived.SevenTiedAt
import Derived.ShutString
import Derived.SizedLaws
import Derived.Test.YtokfgajfkopelaaDoorCards
import Derived.Test.YtokfgajfkopelaaDoorTie
import Derived.WalkKit
import Derived.Test.YtokfgajfkopelaaDoorQ3
namespace Go.Proofs.YtokfgajfkopelaaDoor.BP
open Go.Proofs.YtokfgajfkopelaaDoor.Mine
open Go.RowKit Go.Proofs.YtokfgajfkopelaaDoorW.PrintWords Go.Proofs.YtokfgajfkopelaaDoorW.PrintLast Go.Proofs.YtokfgajfkopelaaDoorW.PrintMore
attribute [local go_sem] max2_int min2_int max_two min_two max_three min_three max_four min_four
set_option linter.unusedVariables false
set_option linter.unusedSimpArgs false
attribute [local go_sem high] eqA24
mutual
def signpostlaw1_AddrWays.l0 : Nat → Int → Int → Int → Int → Int → Int → Option (Bool)
 | 0, _, _, _, _, _, _ => none
 | k + 1, x0, x7, x159000, x159001, x160000, x160001 => if x7 > 0 then ((addr_Up.f x160000 x160001).bind fun bt160 => (if bt160.2.2 = true then (if bt160.2.1 = (wrap64 (x7 - 1)) then ((addr_Covers.f bt160.1 bt160.2.1 x159000 x159001).bind fun t164 => (if t164 = true then ((addr_Of.f x0 (wrap64 (x7 - 1))).bind fun bt165 => (if (!(bt160.1 == bt165.1) || (!(bt160.2.1 == bt165.2))) = true then (some false) else (signpostlaw1_AddrWays.l0 k x0 (wrap64 (x7 - 1)) x159000 x159001 bt160.1 bt160.2.1))) else (some false))) else (some false)) else (some false))) else (if (!(x160000 == 0) || (!(x160001 == 0))) = true then (some false) else (signpostlaw1_AddrWays.l1 k x0 0 x160000 x160001))
def signpostlaw1_AddrWays.l1 : Nat → Int → Int → Int → Int → Option (Bool)
 | 0, _, _, _, _ => none
 | k + 1, x0, x10, x160000, x160001 => if x10 < 32 then (if 0 ≤ (IntKind.u64.wrap (wrap64 (31 - x10))) then ((addr_Half.f k x160000 x160001 ((Go.bits .and .u32 (shr .u32 x0 (IntKind.u64.wrap (wrap64 (31 - x10)))) 1) == 1)).bind fun bt168 => (if bt168.2.2 = true then ((addr_Has.f bt168.1 bt168.2.1 x0).bind fun t172 => (if t172 = true then (signpostlaw1_AddrWays.l1 k x0 (wrap64 (x10 + 1)) bt168.1 bt168.2.1) else (some false))) else (some false))) else (none)) else (if (x160000 == x0 && (x160001 == 32)) = true then ((signpostlaw1_known.f).bind fun t167 => (some t167)) else (some false))
end
def signpostlaw1_AddrWays.f (k : Nat) (a0 : Int) (a1 : Int) : Option (Bool) := (signpostkeep_Any.f k a0 a1).bind fun bt156 => (signpostlaw1_AddrWays.l0 k a0 bt156.2 bt156.1 bt156.2 bt156.1 bt156.2)
def signpostlaw1_AddrWays.T7 : Bool × List (List Nat × List Nat) := (true, [([], []), ([0], [0]), ([1], [1]), ([2], [2]), ([3, 2], [2, 3]), ([2], [2]), ([5, 2], [2, 5]), ([4, 6, 2], [2, 4, 6]), ([2, 7], [2, 7]), ([8, 2], [8]), ([9], [9]), ([9], [9]), ([10, 11, 9, 9], [9, 10, 11]), ([12, 9], [9, 12]), ([9, 13], [9, 13]), ([14, 12], [14]), ([15], [15]), ([15], [15]), ([15], [15]), ([18, 15], [15, 18]), ([17, 19, 15, 15], [15, 17, 19]), ([16, 20, 15], [15, 16, 20]), ([15, 21], [15, 21])])
def signpostlaw1_AddrWays.B7 : List Nat := [0, 1, 3, 7, 15, 7, 39, 127, 255, 511, 1023, 1023, 4095, 8191, 16383, 32767, 65535, 65535, 65535, 327679, 983039, 2097151, 4194303]
theorem signpostlaw1_AddrWays.tab7 : rtab .any (opsOf Tryd.f7 7) = signpostlaw1_AddrWays.T7 := by kernel_rfl
theorem signpostlaw1_AddrWays.bits7 : waitsOk signpostlaw1_AddrWays.T7.2 signpostlaw1_AddrWays.B7 = true := by kernel_rfl
set_option maxHeartbeats 8000000 in
set_option maxRecDepth 100000 in
theorem signpostlaw1_AddrWays.calls (k : Nat) (a0 : Int) (a1 : Int) (r : Bool) (hr : r = true) (w : World) (henv : Env w) (h : signpostlaw1_AddrWays.f k a0 a1 = some r) :
 Calls Tryd.prog 7 #[.int .u32 a0, .int .i64 a1] w fun e w' => e = .returned (.bool r) ∧ Below w.heap.size w w' := by
 have hu24 := Tryd.underlying24
 have HB := Aside0.mk (Below.refl w.heap.size w)
 have HENV := Aside0.mk henv
 clear henv
 have H : ((signpostkeep_Any.f k a0 a1).bind fun bt156 => (signpostlaw1_AddrWays.l0 k a0 bt156.2 bt156.1 bt156.2 bt156.1 bt156.2)) = some r := h
 clear h
 replace H := Option.bind_eq_some_iff.mp H
 obtain ⟨⟨t156, t157⟩, A30, H⟩ := H
 replace H : (signpostlaw1_AddrWays.l0 k a0 t157 t156 t157 t156 t157) = some r := H
 have A3 := Aside0.mk A30
 clear A30
 have H' := Aside0.mk H
 clear H
 go_enter Tryd.func7, Tryd.ntmps7
 go_wp2_with (first | ((with_reducible refine gate_callee (f := 11) rfl ?_); refine goesL_ (some 15) rfl rfl Tryd.func11 (by kernel_rfl) rfl #[.int .u32 a0, .int .i64 a1] rfl (by (try simp only [List.map_toArray, List.map_cons, List.map_nil]); first | done | rfl | (simp only [List.length_drop, List.length_take]; rfl)) ?_; (with_reducible refine (signpostkeep_Any.calls k a0 a1 t156 t157 _ A3.out).mono ?_); rintro e w4 ⟨rfl, hb⟩; refine ⟨_, rfl, ?_⟩; have n0_ := Aside0.mk (below_step (by repeat (first | (with_reducible first | exact HB.out | apply below_alloc | apply pw_below_drewN | apply below_drew1) | exact HB.out)) hb); clear HB; have HB := n0_; clear n0_; (try clear hb); (try clear hb2); (try clear hk); (try clear hi)) | ((with_reducible refine gate_dst (N := 5) rfl ?_); refine box_event ?hg (N := 5) ?hd (cs := #[.int .u32 0, .int .i64 0]) (t := 24) ?hr ?_; (case hd => rfl); (case hg => rfl); (case hr => first | (go_simp; done) | (go_simp; rfl)); intro gb158 hg w5 hbox hb; have n0_ := Aside0.mk (below_step (by repeat (first | (with_reducible first | exact HB.out | apply below_alloc | apply pw_below_drewN | apply below_drew1) | exact HB.out)) hb); have n1_ := Aside0.mk (hbox); have n2_ := Aside0.mk ((by rw [hg]; exact (below_size (by repeat (first | (with_reducible first | exact HB.out | apply below_alloc | apply pw_below_drewN | apply below_drew1) | exact HB.out))) : w.heap.size ≤ gb158)); have n3_ := Aside0.mk ((by rw [hg]; exact (below_size (by repeat (first | (with_reducible first | exact HB.out | apply below_alloc | apply pw_below_drewN | apply below_drew1) | exact HB.out))) : w.heap.size ≤ gb158)); clear HB; have HB := n0_; have BK158 := n1_; have GW158 := n2_; have GE158 := n3_; clear n0_ n1_ n2_ n3_; clear hb hbox hg; have hcz6_0 : w5.cell? ⟨gb158, 0, none⟩ = some (.int .u32 0) := (blk_cell BK158.out 0).trans rfl; have hcz6_1 : w5.cell? ⟨gb158, 1, none⟩ = some (.int .i64 0) := (blk_cell BK158.out 1).trans rfl; have hfz6_0 := blk_frozen BK158.out 0; have hfz6_1 := blk_frozen BK158.out 1) | ((with_reducible refine gate_dst (N := 6) rfl ?_); refine box_event ?hg (N := 6) ?hd (cs := #[.int .u32 0, .int .i64 0]) (t := 24) ?hr ?_; (case hd => rfl); (case hg => rfl); (case hr => first | (go_simp; done) | (go_simp; rfl)); intro gb159 hg w7 hbox hb; have n0_ := Aside0.mk (blk_below (g := gb158) (o := .cells #[.int .u32 t156, .int .i64 t157] 24 (0, 0)) (by (with_reducible repeat (first | refine blk_drewN ?_ _ | refine blk_drew ?_ | refine blk_alloc ?_ _)); refine blk_put (cs := #[.int .u32 t156, .int .i64 0]) ?_ 1 _ rfl; (with_reducible repeat (first | refine blk_drewN ?_ _ | refine blk_drew ?_ | refine blk_alloc ?_ _)); refine blk_put (cs := #[.int .u32 0, .int .i64 0]) ?_ 0 _ rfl; (with_reducible repeat (first | refine blk_drewN ?_ _ | refine blk_drew ?_ | refine blk_alloc ?_ _)); exact BK158.out) hb); have n1_ := Aside0.mk (below_step (by repeat (first | (with_reducible first | exact HB.out | apply below_alloc | apply pw_below_drewN | apply below_drew1 | refine below_set ?_ GE158.out) | exact HB.out)) hb); have n2_ := Aside0.mk (hbox); have n3_ := Aside0.mk ((by rw [hg]; exact (below_size (by repeat (first | (with_reducible first | exact HB.out | apply below_alloc | apply pw_below_drewN | apply below_drew1 | refine below_set ?_ GE158.out) | exact HB.out))) : w.heap.size ≤ gb159)); have n4_ := Aside0.mk ((by rw [hg]; exact (below_size (by repeat (first | (with_reducible first | exact HB.out | apply below_alloc | apply pw_below_drewN | apply below_drew1 | refine below_set ?_ GE158.out) | exact HB.out))) : w.heap.size ≤ gb159)); have n5_ := Aside0.mk ((by rw [hg]; exact Nat.ne_of_lt (blk_lt (g := gb158) (o := .cells #[.int .u32 t156, .int .i64 t157] 24 (0, 0)) (by (with_reducible repeat (first | refine blk_drewN ?_ _ | refine blk_drew ?_ | refine blk_alloc ?_ _)); refine blk_put (cs := #[.int .u32 t156, .int .i64 0]) ?_ 1 _ rfl; (with_reducible repeat (first | refine blk_drewN ?_ _ | refine blk_drew ?_ | refine blk_alloc ?_ _)); refine blk_put (cs := #[.int .u32 0, .int .i64 0]) ?_ 0 _ rfl; (with_reducible repeat (first | refine blk_drewN ?_ _ | refine blk_drew ?_ | refine blk_alloc ?_ _)); exact BK158.out)) : gb158 ≠ gb159)); have n6_ := Aside0.mk ((by rw [hg]; exact Nat.ne_of_gt (blk_lt (g := gb158) (o := .cells #[.int .u32 t156, .int .i64 t157] 24 (0, 0)) (by (with_reducible repeat (first | refine blk_drewN ?_ _ | refine blk_drew ?_ | refine blk_alloc ?_ _)); refine blk_put (cs := #[.int .u32 t156, .int .i64 0]) ?_ 1 _ rfl; (with_reducible repeat (first | refine blk_drewN ?_ _ | refine blk_drew ?_ | refine blk_alloc ?_ _)); refine blk_put (cs := #[.int .u32 0, .int .i64 0]) ?_ 0 _ rfl; (with_reducible repeat (first | refine blk_drewN ?_ _ | refine blk_drew ?_ | refine blk_alloc ?_ _)); exact BK158.out)) : gb159 ≠ gb158)); clear BK158; clear HB; have BK158 := n0_; have HB := n1_; have BK159 := n2_; have GW159 := n3_; have GE159 := n4_; have NB158_159 := n5_; have NB159_158 := n6_; clear n0_ n1_ n2_ n3_ n4_ n5_ n6_; clear hb hbox hg; have hnb8 := NB159_158.out; have hnc8 := NB158_159.out; have hcz9_0 : w7.cell? ⟨gb159, 0, none⟩ = some (.int .u32 0) := (blk_cell BK159.out 0).trans rfl; have hcz9_1 : w7.cell? ⟨gb159, 1, none⟩ = some (.int .i64 0) := (blk_cell BK159.out 1).trans rfl; have hfz9_0 := blk_frozen BK159.out 0; have hfz9_1 := blk_frozen BK159.out 1; have hcz10_0 : w7.cell? ⟨gb158, 0, none⟩ = some (.int .u32 t156) := (blk_cell BK158.out 0).trans rfl; have hcz10_1 : w7.cell? ⟨gb158, 1, none⟩ = some (.int .i64 t157) := (blk_cell BK158.out 1).trans rfl; have hfz10_0 := blk_frozen BK158.out 0; have hfz10_1 := blk_frozen BK158.out 1))
 go_loopg [7] k (fun kq v7 w' => ∃ (x7_1 : Int) (x160000_1 : Int) (x160001_1 : Int), v7 = .int .i64 x7_1 ∧ Aside0 (signpostlaw1_AddrWays.l0 kq a0 x7_1 t156 t157 x160000_1 x160001_1 = some r) ∧ Aside0 (kq ≤ k) ∧ Aside0 (w'.heap[gb158]? = some (.cells #[.int .u32 t156, .int .i64 t157] 24 (0, 0))) ∧ Aside0 (w'.heap[gb159]? = some (.cells #[.int .u32 x160000_1, .int .i64 x160001_1] 24 (0, 0))) ∧ Aside0 (Below w.heap.size w w'))
 case atStart => exact ⟨(t157), (t156), (t157), (by first | rfl | (simp; done) | (simp [*]; done)), H', ⟨Nat.le_refl _⟩, ⟨by (with_reducible repeat (first | refine blk_drewN ?_ _ | refine blk_drew ?_ | refine blk_alloc ?_ _)); refine blk_far ?_ NB158_159.out _; (with_reducible repeat (first | refine blk_drewN ?_ _ | refine blk_drew ?_ | refine blk_alloc ?_ _)); refine blk_far ?_ NB158_159.out _; (with_reducible repeat (first | refine blk_drewN ?_ _ | refine blk_drew ?_ | refine blk_alloc ?_ _)); exact BK158.out⟩, ⟨by (with_reducible repeat (first | refine blk_drewN ?_ _ | refine blk_drew ?_ | refine blk_alloc ?_ _)); refine blk_put (cs := #[.int .u32 t156, .int .i64 0]) ?_ 1 _ rfl; (with_reducible repeat (first | refine blk_drewN ?_ _ | refine blk_drew ?_ | refine blk_alloc ?_ _)); refine blk_put (cs := #[.int .u32 0, .int .i64 0]) ?_ 0 _ rfl; (with_reducible repeat (first | refine blk_drewN ?_ _ | refine blk_drew ?_ | refine blk_alloc ?_ _)); exact BK159.out⟩, ⟨by repeat (first | (with_reducible first | exact HB.out | apply below_alloc | apply pw_below_drewN | apply below_drew1 | refine below_set ?_ GE158.out | refine below_set ?_ GE159.out) | exact HB.out)⟩⟩
 case round =>
  clear H'
  try clear c1
  try clear p2
  try clear c7
  try clear c8
  try clear hcz10_0
  try clear hcz10_1
  try clear hcz6_0
  try clear hcz6_1
  try clear hcz9_0
  try clear hcz9_1
  try clear hfz10_0
  try clear hfz10_1
  try clear hfz6_0
  try clear hfz6_1
  try clear hfz9_0
  try clear hfz9_1
  obtain ⟨x7_1, x160000_1, x160001_1, rfl, HA, HK1, BK158, BK159, HB⟩ := hrel
  cases gk with
  | zero => exact absurd HA.out (by simp [signpostlaw1_AddrWays.l0])
  | succ k1 =>
   have H := HA.out
   clear HA
   simp only [signpostlaw1_AddrWays.l0] at H
   by_cases c11 : x7_1 > 0
   ·rw [if_pos c11] at H
    have c11b0 : decide (0 < x7_1) = true := decide_eq_true c11
    clear c11
    replace H := Option.bind_eq_some_iff.mp H
    obtain ⟨⟨t160, t161, t162⟩, A120, H⟩ := H
    replace H : (if t162 = true then (if t161 = (wrap64 (x7_1 - 1)) then ((addr_Covers.f t160 t161 t156 t157).bind fun t164 => (if t164 = true then ((addr_Of.f a0 (wrap64 (x7_1 - 1))).bind fun bt165 => (if (!(t160 == bt165.1) || (!(t161 == bt165.2))) = true then (some false) else (signpostlaw1_AddrWays.l0 k1 a0 (wrap64 (x7_1 - 1)) t156 t157 t160 t161))) else (some false))) else (some false)) else (some false)) = some r := H
    have A12 := Aside0.mk A120
    clear A120
    by_cases c13 : t162 = true
    ·subst c13
     have H1 : (if t161 = (wrap64 (x7_1 - 1)) then ((addr_Covers.f t160 t161 t156 t157).bind fun t164 => (if t164 = true then ((addr_Of.f a0 (wrap64 (x7_1 - 1))).bind fun bt165 => (if (!(t160 == bt165.1) || (!(t161 == bt165.2))) = true then (some false) else (signpostlaw1_AddrWays.l0 k1 a0 (wrap64 (x7_1 - 1)) t156 t157 t160 t161))) else (some false))) else (some false)) = some r := by rw [if_pos rfl] at H; exact H
     clear H
     have H := H1
     clear H1
     by_cases c14 : t161 = (wrap64 (x7_1 - 1))
     ·rw [if_pos c14] at H
      have c14b0 : (t161 == (wrap64 (x7_1 - 1))) = true := beq_iff_eq.mpr c14
      have c14b1 : (t161 != (wrap64 (x7_1 - 1))) = false := bne_eq_false_iff_eq.mpr c14
      clear c14
      replace H := Option.bind_eq_some_iff.mp H
      obtain ⟨t164, A150, H⟩ := H
      replace H : (if t164 = true then ((addr_Of.f a0 (wrap64 (x7_1 - 1))).bind fun bt165 => (if (!(t160 == bt165.1) || (!(t161 == bt165.2))) = true then (some false) else (signpostlaw1_AddrWays.l0 k1 a0 (wrap64 (x7_1 - 1)) t156 t157 t160 t161))) else (some false)) = some r := H
      have A15 := Aside0.mk A150
      clear A150
      by_cases c16 : t164 = true
      ·subst c16
       have H1 : ((addr_Of.f a0 (wrap64 (x7_1 - 1))).bind fun bt165 => (if (!(t160 == bt165.1) || (!(t161 == bt165.2))) = true then (some false) else (signpostlaw1_AddrWays.l0 k1 a0 (wrap64 (x7_1 - 1)) t156 t157 t160 t161))) = some r := by rw [if_pos rfl] at H; exact H
       clear H
       have H := H1
       clear H1
       replace H := Option.bind_eq_some_iff.mp H
       obtain ⟨⟨t165, t166⟩, A170, H⟩ := H
       replace H : (if (!(t160 == t165) || (!(t161 == t166))) = true then (some false) else (signpostlaw1_AddrWays.l0 k1 a0 (wrap64 (x7_1 - 1)) t156 t157 t160 t161)) = some r := H
       have A17 := Aside0.mk A170
       clear A170
       by_cases c18 : (!(t160 == t165) || (!(t161 == t166))) = true
       ·rw [if_pos c18] at H
        have c18b0 : (!(t160 == t165) || (!(t161 == t166))) = true := c18
        clear c18
        exact absurd ((Option.some.inj H).trans hr) (by decide)
       ·rw [if_neg c18] at H
        have c18b0 : (!(t160 == t165) || (!(t161 == t166))) = false := by simpa using c18
        clear c18
        have H' := Aside0.mk H
        clear H
        have hnb30 := NB159_158.out
        have hnc30 := NB158_159.out
        have hcz31_0 : wr.cell? ⟨gb159, 0, none⟩ = some (.int .u32 x160000_1) := (blk_cell BK159.out 0).trans rfl
        have hcz31_1 : wr.cell? ⟨gb159, 1, none⟩ = some (.int .i64 x160001_1) := (blk_cell BK159.out 1).trans rfl
        have hfz31_0 := blk_frozen BK159.out 0
        have hfz31_1 := blk_frozen BK159.out 1
        try go_wp2_with (first | ((with_reducible refine gate_callee (f := 21) rfl ?_); refine goesL_ (some 25) rfl rfl Tryd.func21 (by kernel_rfl) rfl #[.agg #[.int .u32 x160000_1, .int .i64 x160001_1]] rfl (by (try simp only [List.map_toArray, List.map_cons, List.map_nil]); first | done | rfl | (simp only [List.length_drop, List.length_take]; rfl)) ?_; (with_reducible refine (addr_Up.calls x160000_1 x160001_1 t160 t161 true _ A12.out).mono ?_); rintro e w32 ⟨rfl, hb⟩; refine ⟨_, rfl, ?_⟩; have n0_ := Aside0.mk (blk_below (g := gb158) (o := .cells #[.int .u32 t156, .int .i64 t157] 24 (0, 0)) (by (with_reducible repeat (first | refine blk_drewN ?_ _ | refine blk_drew ?_ | refine blk_alloc ?_ _)); exact BK158.out) hb); have n1_ := Aside0.mk (blk_below (g := gb159) (o := .cells #[.int .u32 x160000_1, .int .i64 x160001_1] 24 (0, 0)) (by (with_reducible repeat (first | refine blk_drewN ?_ _ | refine blk_drew ?_ | refine blk_alloc ?_ _)); exact BK159.out) hb); have n2_ := Aside0.mk (below_step (by repeat (first | (with_reducible first | exact HB.out | apply below_alloc | apply pw_below_drewN | apply below_drew1 | refine below_set ?_ GE158.out | refine below_set ?_ GE159.out) | exact HB.out)) hb); clear BK158; clear BK159; clear HB; have BK158 := n0_; have BK159 := n1_; have HB := n2_; clear n0_ n1_ n2_; (try clear hb); (try clear hb2); (try clear hk); (try clear hi)) | ((with_reducible refine gate_dst (N := 8) rfl ?_); refine box_event ?hg (N := 8) ?hd (cs := #[.int .u32 0, .int .i64 0]) (t := 24) ?hr ?_; (case hd => rfl); (case hg => rfl); (case hr => first | (go_simp; done) | (go_simp; rfl)); intro gb163 hg w33 hbox hb; have n0_ := Aside0.mk (blk_below (g := gb158) (o := .cells #[.int .u32 t156, .int .i64 t157] 24 (0, 0)) (by (with_reducible repeat (first | refine blk_drewN ?_ _ | refine blk_drew ?_ | refine blk_alloc ?_ _)); exact BK158.out) hb); have n1_ := Aside0.mk (blk_below (g := gb159) (o := .cells #[.int .u32 x160000_1, .int .i64 x160001_1] 24 (0, 0)) (by (with_reducible repeat (first | refine blk_drewN ?_ _ | refine blk_drew ?_ | refine blk_alloc ?_ _)); exact BK159.out) hb); have n2_ := Aside0.mk (below_step (by repeat (first | (with_reducible first | exact HB.out | apply below_alloc | apply pw_below_drewN | apply below_drew1 | refine below_set ?_ GE158.out | refine below_set ?_ GE159.out) | exact HB.out)) hb); have n3_ := Aside0.mk (hbox); have n4_ := Aside0.mk ((by rw [hg]; exact (below_size (by repeat (first | (with_reducible first | exact HB.out | apply below_alloc | apply pw_below_drewN | apply below_drew1 | refine below_set ?_ GE158.out | refine below_set ?_ GE159.out) | exact HB.out))) : w.heap.size ≤ gb163)); have n5_ := Aside0.mk ((by rw [hg]; exact (below_size (by repeat (first | (with_reducible first | exact HB.out | apply below_alloc | apply pw_below_drewN | apply below_drew1 | refine below_set ?_ GE158.out | refine below_set ?_ GE159.out) | exact HB.out))) : w.heap.size ≤ gb163)); have n6_ := Aside0.mk ((by rw [hg]; exact Nat.ne_of_lt (blk_lt (g := gb158) (o := .cells #[.int .u32 t156, .int .i64 t157] 24 (0, 0)) (by (with_reducible repeat (first | refine blk_drewN ?_ _ | refine blk_drew ?_ | refine blk_alloc ?_ _)); exact BK158.out)) : gb158 ≠ gb163)); have n7_ := Aside0.mk ((by rw [hg]; exact Nat.ne_of_gt (blk_lt (g := gb158) (o := .cells #[.int .u32 t156, .int .i64 t157] 24 (0, 0)) (by (with_reducible repeat (first | refine blk_drewN ?_ _ | refine blk_drew ?_ | refine blk_alloc ?_ _)); exact BK158.out)) : gb163 ≠ gb158)); have n8_ := Aside0.mk ((by rw [hg]; exact Nat.ne_of_lt (blk_lt (g := gb159) (o := .cells #[.int .u32 x160000_1, .int .i64 x160001_1] 24 (0, 0)) (by (with_reducible repeat (first | refine blk_drewN ?_ _ | refine blk_drew ?_ | refine blk_alloc ?_ _)); exact BK159.out)) : gb159 ≠ gb163)); have n9_ := Aside0.mk ((by rw [hg]; exact Nat.ne_of_gt (blk_lt (g := gb159) (o := .cells #[.int .u32 x160000_1, .int .i64 x160001_1] 24 (0, 0)) (by (with_reducible repeat (first | refine blk_drewN ?_ _ | refine blk_drew ?_ | refine blk_alloc ?_ _)); exact BK159.out)) : gb163 ≠ gb159)); clear BK158; clear BK159; clear HB; have BK158 := n0_; have BK159 := n1_; have HB := n2_; have BK163 := n3_; have GW163 := n4_; have GE163 := n5_; have NB158_163 := n6_; have NB163_158 := n7_; have NB159_163 := n8_; have NB163_159 := n9_; clear n0_ n1_ n2_ n3_ n4_ n5_ n6_ n7_ n8_ n9_; clear hb hbox hg; have hnb34 := NB163_158.out; have hnc34 := NB158_163.out; have hnb35 := NB163_159.out; have hnc35 := NB159_163.out; have hcz36_0 : w33.cell? ⟨gb163, 0, none⟩ = some (.int .u32 0) := (blk_cell BK163.out 0).trans rfl; have hcz36_1 : w33.cell? ⟨gb163, 1, none⟩ = some (.int .i64 0) := (blk_cell BK163.out 1).trans rfl; have hfz36_0 := blk_frozen BK163.out 0; have hfz36_1 := blk_frozen BK163.out 1))
        have n0_ : Aside0 (((w33.setCell ⟨gb163, 0, none⟩ (.int .u32 t160)).setCell ⟨gb163, 1, none⟩ (.int .i64 t161)).heap[gb158]? = some (.cells #[.int .u32 t156, .int .i64 t157] 24 (0, 0))) := ⟨by (with_reducible repeat (first | refine blk_drewN ?_ _ | refine blk_drew ?_ | refine blk_alloc ?_ _)); refine blk_far ?_ NB158_163.out _; (with_reducible repeat (first | refine blk_drewN ?_ _ | refine blk_drew ?_ | refine blk_alloc ?_ _)); refine blk_far ?_ NB158_163.out _; (with_reducible repeat (first | refine blk_drewN ?_ _ | refine blk_drew ?_ | refine blk_alloc ?_ _)); exact BK158.out⟩
        have n1_ : Aside0 (((w33.setCell ⟨gb163, 0, none⟩ (.int .u32 t160)).setCell ⟨gb163, 1, none⟩ (.int .i64 t161)).heap[gb159]? = some (.cells #[.int .u32 x160000_1, .int .i64 x160001_1] 24 (0, 0))) := ⟨by (with_reducible repeat (first | refine blk_drewN ?_ _ | refine blk_drew ?_ | refine blk_alloc ?_ _)); refine blk_far ?_ NB159_163.out _; (with_reducible repeat (first | refine blk_drewN ?_ _ | refine blk_drew ?_ | refine blk_alloc ?_ _)); refine blk_far ?_ NB159_163.out _; (with_reducible repeat (first | refine blk_drewN ?_ _ | refine blk_drew ?_ | refine blk_alloc ?_ _)); exact BK159.out⟩
        have n2_ : Aside0 (((w33.setCell ⟨gb163, 0, none⟩ (.int .u32 t160)).setCell ⟨gb163, 1, none⟩ (.int .i64 t161)).heap[gb163]? = some (.cells #[.int .u32 t160, .int .i64 t161] 24 (0, 0))) := ⟨by (with_reducible repeat (first | refine blk_drewN ?_ _ | refine blk_drew ?_ | refine blk_alloc ?_ _)); refine blk_put (cs := #[.int .u32 t160, .int .i64 0]) ?_ 1 _ rfl; (with_reducible repeat (first | refine blk_drewN ?_ _ | refine blk_drew ?_ | refine blk_alloc ?_ _)); refine blk_put (cs := #[.int .u32 0, .int .i64 0]) ?_ 0 _ rfl; (with_reducible repeat (first | refine blk_drewN ?_ _ | refine blk_drew ?_ | refine blk_alloc ?_ _)); exact BK163.out⟩
        have n3_ : Aside0 (Below w.heap.size w ((w33.setCell ⟨gb163, 0, none⟩ (.int .u32 t160)).setCell ⟨gb163, 1, none⟩ (.int .i64 t161))) := ⟨by repeat (first | (with_reducible first | exact HB.out | apply below_alloc | apply pw_below_drewN | apply below_drew1 | refine below_set ?_ GE158.out | refine below_set ?_ GE159.out | refine below_set ?_ GE163.out) | exact HB.out)⟩
        (try clear BK158)
        (try clear BK159)
        (try clear BK163)
        (try clear HB)
        generalize ((w33.setCell ⟨gb163, 0, none⟩ (.int .u32 t160)).setCell ⟨gb163, 1, none⟩ (.int .i64 t161)) = w37 at n0_ n1_ n2_ n3_ ⊢
        have BK158 := n0_
        have BK159 := n1_
        have BK163 := n2_
        have HB := n3_
        clear n0_ n1_ n2_ n3_
        have n0_ := Aside0.mk (blk_drew BK158.out)
        have n1_ := Aside0.mk (blk_drew BK159.out)
        have n2_ := Aside0.mk (blk_drew BK163.out)
        have n3_ := Aside0.mk (below_drew1 HB.out)
        clear BK158
        clear BK159
        clear BK163
        clear HB
        have BK158 := n0_
        have BK159 := n1_
        have BK163 := n2_
        have HB := n3_
        clear n0_ n1_ n2_ n3_
        refine start_ (n := 23) (S := fun w' => w'.cell? ⟨gb163, 0, none⟩ = some (.int .u32 t160) ∧ w'.cell? ⟨gb163, 1, none⟩ = some (.int .i64 t161) ∧ w'.cell? ⟨gb158, 0, none⟩ = some (.int .u32 t156) ∧ w'.cell? ⟨gb158, 1, none⟩ = some (.int .i64 t157)) (ds := []) #[false, false, false, false, false, false, false, false, false, false, false, false, false, false, false, false, false, false, false, false, false, false, false] (by kernel_rfl) rfl rfl ⟨(blk_cell BK163.out 0).trans rfl, (blk_cell BK163.out 1).trans rfl, (blk_cell BK158.out 0).trans rfl, (blk_cell BK158.out 1).trans rfl⟩ (fun hHeld => ?_); refine with_tabW signpostlaw1_AddrWays.tab7 signpostlaw1_AddrWays.bits7 (fun HT_ HW_ => ?_)
        generalize w37.drew = w38 at BK158 BK159 BK163 HB hHeld ⊢
        refine pure_ (i := 0) (N := some 28) (v := ?_) (a' := ?_) #[true, false, false, false, false, false, false, false, false, false, false, false, false, false, false, false, false, false, false, false, false, false, false] rfl rfl (any_of HT_.out (by kernel_rfl)) (fun _ _ _ h => h) (Or.inl ⟨by rfl, ?_⟩) ?_ ?_
        rotate_left
        ·intro w'
         go_simp
         with_reducible rfl
        rotate_left
        ·simp only [Act.put, List.setIfInBounds_toArray, List.set_cons_zero, List.set_cons_succ, i64_w, i32_w]
         rfl
        refine pure_ (i := 1) (N := some 29) (v := ?_) (a' := ?_) #[true, true, false, false, false, false, false, false, false, false, false, false, false, false, false, false, false, false, false, false, false, false, false] rfl rfl (any_of HT_.out (by kernel_rfl)) (fun _ _ _ h => h) (Or.inl ⟨by rfl, ?_⟩) ?_ ?_
        rotate_left
        ·intro w'
         go_simp
         with_reducible rfl
        rotate_left
        ·simp only [Act.put, List.setIfInBounds_toArray, List.set_cons_zero, List.set_cons_succ, i64_w, i32_w]
         rfl
        refine pure_ (i := 2) (N := some 30) (v := ?_) (a' := ?_) #[true, true, true, false, false, false, false, false, false, false, false, false, false, false, false, false, false, false, false, false, false, false, false] rfl rfl (any_of HT_.out (by kernel_rfl)) (fun _ _ _ h => h) (Or.inl ⟨by rfl, ?_⟩) ?_ ?_
        rotate_left
        ·intro w'
         go_simp
         with_reducible rfl
        rotate_left
        ·simp only [Act.put, List.setIfInBounds_toArray, List.set_cons_zero, List.set_cons_succ, i64_w, i32_w]
         rfl
        refine pure_ (i := 3) (N := some 31) (v := ?_) (a' := ?_) #[true, true, true, true, false, false, false, false, false, false, false, false, false, false, false, false, false, false, false, false, false, false, false] rfl rfl (any_of HT_.out (by kernel_rfl)) (fun _ _ _ h => h) (Or.inl ⟨by rfl, ?_⟩) ?_ ?_
        rotate_left
        ·intro w'
         go_simp
         with_reducible rfl
        rotate_left
        ·simp only [Act.put, List.setIfInBounds_toArray, List.set_cons_zero, List.set_cons_succ, i64_w, i32_w]
         rfl
        refine pure_ (i := 5) (N := some 33) (v := ?_) (a' := ?_) #[true, true, true, true, false, true, false, false, false, false, false, false, false, false, false, false, false, false, false, false, false, false, false] rfl rfl (any_of HT_.out (by kernel_rfl)) (fun _ _ _ h => h) (Or.inl ⟨by rfl, ?_⟩) ?_ ?_
        rotate_left
        ·intro w'
         go_simp
         with_reducible rfl
        rotate_left
        ·simp only [Act.put, List.setIfInBounds_toArray, List.set_cons_zero, List.set_cons_succ, i64_w, i32_w]
         rfl
        refine pure_ (i := 6) (N := some 34) (v := ?_) (a' := ?_) #[true, true, true, true, false, true, true, false, false, false, false, false, false, false, false, false, false, false, false, false, false, false, false] rfl rfl (any_of HT_.out (by kernel_rfl)) (fun _ _ _ h => h) (Or.inl ⟨by rfl, ?_⟩) ?_ ?_
        rotate_left
        ·intro w'
         go_simp
         with_reducible rfl
        rotate_left
        ·simp only [Act.put, List.setIfInBounds_toArray, List.set_cons_zero, List.set_cons_succ, i64_w, i32_w]
         rfl
        refine take_ (i := 4) (N := some 32) (v := ?_) (a' := ?_) #[true, true, true, true, true, true, true, false, false, false, false, false, false, false, false, false, false, false, false, false, false, false, false] rfl rfl (take_ofW HT_.out HW_.out (by kernel_rfl)) (fun _ _ _ h => h) (Or.inl ⟨by rfl, ?_⟩) hHeld ?_ ?_
        rotate_left
        ·rintro w' ⟨s0, s1, s2, s3⟩
         go_simp
         with_reducible rfl
        rotate_left
        ·simp only [Act.put, List.setIfInBounds_toArray, List.set_cons_zero, List.set_cons_succ, i64_w, i32_w]
         rfl
        refine pure_ (i := 7) (N := some 35) (v := ?_) (a' := ?_) #[true, true, true, true, true, true, true, true, false, false, false, false, false, false, false, false, false, false, false, false, false, false, false] rfl rfl (any_of HT_.out (by kernel_rfl)) (fun _ _ _ h => h) (Or.inl ⟨by rfl, ?_⟩) ?_ ?_
        rotate_left
        ·intro w'
         go_simp
         with_reducible rfl
        rotate_left
        ·simp only [Act.put, List.setIfInBounds_toArray, List.set_cons_zero, List.set_cons_succ, i64_w, i32_w]
         rfl
        refine pure_ (i := 8) (N := some 36) (v := ?_) (a' := ?_) #[true, true, true, true, true, true, true, true, true, false, false, false, false, false, false, false, false, false, false, false, false, false, false] rfl rfl (any_of HT_.out (by kernel_rfl)) (fun _ _ _ h => h) (Or.inl ⟨by rfl, ?_⟩) ?_ ?_
        rotate_left
        ·intro w'
         go_simp
         with_reducible rfl
        rotate_left
        ·simp only [Act.put, List.setIfInBounds_toArray, List.set_cons_zero, List.set_cons_succ, i64_w, i32_w]
         rfl
        refine pure_ (i := 9) (N := some 37) (v := ?_) (a' := ?_) #[true, true, true, true, true, true, true, true, true, true, false, false, false, false, false, false, false, false, false, false, false, false, false] rfl rfl (any_of HT_.out (by kernel_rfl)) (fun _ _ _ h => h) (Or.inl ⟨by rfl, ?_⟩) ?_ ?_
        rotate_left
        ·intro w'
         go_simp
         with_reducible rfl
        rotate_left
        ·simp only [Act.put, List.setIfInBounds_toArray, List.set_cons_zero, List.set_cons_succ, i64_w, i32_w]
         rfl
        refine take_ (i := 10) (N := some 38) (v := ?_) (a' := ?_) #[true, true, true, true, true, true, true, true, true, true, true, false, false, false, false, false, false, false, false, false, false, false, false] rfl rfl (take_ofW HT_.out HW_.out (by kernel_rfl)) (fun _ _ _ h => h) (Or.inl ⟨by rfl, ?_⟩) hHeld ?_ ?_
        rotate_left
        ·rintro w' ⟨s0, s1, s2, s3⟩
         go_simp
         with_reducible rfl
        rotate_left
        ·simp only [Act.put, List.setIfInBounds_toArray, List.set_cons_zero, List.set_cons_succ, i64_w, i32_w]
         rfl
        refine take_ (i := 11) (N := some 39) (v := ?_) (a' := ?_) #[true, true, true, true, true, true, true, true, true, true, true, true, false, false, false, false, false, false, false, false, false, false, false] rfl rfl (take_ofW HT_.out HW_.out (by kernel_rfl)) (fun _ _ _ h => h) (Or.inl ⟨by rfl, ?_⟩) hHeld ?_ ?_
        rotate_left
        ·rintro w' ⟨s0, s1, s2, s3⟩
         go_simp
         with_reducible rfl
        rotate_left
        ·simp only [Act.put, List.setIfInBounds_toArray, List.set_cons_zero, List.set_cons_succ, i64_w, i32_w]
         rfl
        refine one_ (i := 12) (N := some 40) #[true, true, true, true, true, true, true, true, true, true, true, true, true, false, false, false, false, false, false, false, false, false, false] rfl rfl (one_of HT_.out (by kernel_rfl)) (by decide) (fun K hK => ?_)
        refine goes_ Tryd.func19 (by kernel_rfl) rfl #[.agg #[.int .u32 t160, .int .i64 t161], .agg #[.int .u32 t156, .int .i64 t157]] (by rfl) rfl rfl (by (try simp only [List.map_toArray, List.map_cons, List.map_nil]); first | done | rfl | (simp only [List.length_drop, List.length_take]; rfl)) ?_
        with_reducible refine (addr_Covers.calls t160 t161 t156 t157 true _ A15.out).mono ?_
        rintro e w39 ⟨rfl, hb⟩
        refine ⟨_, rfl, ?_⟩
        have n0_ := Aside0.mk (blk_below (g := gb158) (o := .cells #[.int .u32 t156, .int .i64 t157] 24 (0, 0)) (by (with_reducible repeat (first | refine blk_drewN ?_ _ | refine blk_drew ?_ | refine blk_alloc ?_ _)); exact BK158.out) hb)
        have n1_ := Aside0.mk (blk_below (g := gb159) (o := .cells #[.int .u32 x160000_1, .int .i64 x160001_1] 24 (0, 0)) (by (with_reducible repeat (first | refine blk_drewN ?_ _ | refine blk_drew ?_ | refine blk_alloc ?_ _)); exact BK159.out) hb)
        have n2_ := Aside0.mk (blk_below (g := gb163) (o := .cells #[.int .u32 t160, .int .i64 t161] 24 (0, 0)) (by (with_reducible repeat (first | refine blk_drewN ?_ _ | refine blk_drew ?_ | refine blk_alloc ?_ _)); exact BK163.out) hb)
        have n3_ := Aside0.mk (below_step (by repeat (first | (with_reducible first | exact HB.out | apply below_alloc | apply pw_below_drewN | apply below_drew1 | refine below_set ?_ GE158.out | refine below_set ?_ GE159.out | refine below_set ?_ GE163.out) | exact HB.out)) hb)
        clear BK158
        clear BK159
        clear BK163
        clear HB
        have BK158 := n0_
        have BK159 := n1_
        have BK163 := n2_
        have HB := n3_
        clear n0_ n1_ n2_ n3_
        (try clear hb)
        (try clear hb2)
        (try clear hk)
        (try clear hi)
        refine hK.out _ _ ⟨(blk_cell BK163.out 0).trans rfl, (blk_cell BK163.out 1).trans rfl, (blk_cell BK158.out 0).trans rfl, (blk_cell BK158.out 1).trans rfl⟩ (fun hHeld => ?_)
        clear hK K
        refine norm_ (a' := ?_) ?_ ?_
        rotate_left
        ·show Act.put _ (some 40) _ = _
         simp only [Act.put, List.setIfInBounds_toArray, List.set_cons_zero, List.set_cons_succ, i64_w, i32_w]
         rfl
        refine pure_ (i := 13) (N := some 41) (v := ?_) (a' := ?_) #[true, true, true, true, true, true, true, true, true, true, true, true, true, true, false, false, false, false, false, false, false, false, false] rfl rfl (any_of HT_.out (by kernel_rfl)) (fun _ _ _ h => h) (Or.inl ⟨by rfl, ?_⟩) ?_ ?_
        rotate_left
        ·intro w'
         go_simp
         with_reducible rfl
        rotate_left
        ·simp only [Act.put, List.setIfInBounds_toArray, List.set_cons_zero, List.set_cons_succ, i64_w, i32_w]
         rfl
        refine pure_ (i := 14) (N := some 42) (v := ?_) (a' := ?_) #[true, true, true, true, true, true, true, true, true, true, true, true, true, true, true, false, false, false, false, false, false, false, false] rfl rfl (any_of HT_.out (by kernel_rfl)) (fun _ _ _ h => h) (Or.inl ⟨by rfl, ?_⟩) ?_ ?_
        rotate_left
        ·intro w'
         go_simp
         with_reducible rfl
        rotate_left
        ·simp only [Act.put, List.setIfInBounds_toArray, List.set_cons_zero, List.set_cons_succ, i64_w, i32_w]
         rfl
        refine pure_ (i := 15) (N := some 43) (v := ?_) (a' := ?_) #[true, true, true, true, true, true, true, true, true, true, true, true, true, true, true, true, false, false, false, false, false, false, false] rfl rfl (any_of HT_.out (by kernel_rfl)) (fun _ _ _ h => h) (Or.inl ⟨by rfl, ?_⟩) ?_ ?_
        rotate_left
        ·intro w'
         go_simp
         with_reducible rfl
        rotate_left
        ·simp only [Act.put, List.setIfInBounds_toArray, List.set_cons_zero, List.set_cons_succ, i64_w, i32_w]
         rfl
        refine pure_ (i := 17) (N := some 45) (v := ?_) (a' := ?_) #[true, true, true, true, true, true, true, true, true, true, true, true, true, true, true, true, false, true, false, false, false, false, false] rfl rfl (any_of HT_.out (by kernel_rfl)) (fun _ _ _ h => h) (Or.inl ⟨by rfl, ?_⟩) ?_ ?_
        rotate_left
        ·intro w'
         go_simp
         with_reducible rfl
        rotate_left
        ·simp only [Act.put, List.setIfInBounds_toArray, List.set_cons_zero, List.set_cons_succ, i64_w, i32_w]
         rfl
        refine pure_ (i := 18) (N := some 46) (v := ?_) (a' := ?_) #[true, true, true, true, true, true, true, true, true, true, true, true, true, true, true, true, false, true, true, false, false, false, false] rfl rfl (any_of HT_.out (by kernel_rfl)) (fun _ _ _ h => h) (Or.inl ⟨by rfl, ?_⟩) ?_ ?_
        rotate_left
        ·intro w'
         go_simp
         with_reducible rfl
        rotate_left
        ·simp only [Act.put, List.setIfInBounds_toArray, List.set_cons_zero, List.set_cons_succ, i64_w, i32_w]
         rfl
        refine pure_ (i := 19) (N := some 47) (v := ?_) (a' := ?_) #[true, true, true, true, true, true, true, true, true, true, true, true, true, true, true, true, false, true, true, true, false, false, false] rfl rfl (any_of HT_.out (by kernel_rfl)) (fun _ _ _ h => h) (Or.inl ⟨by rfl, ?_⟩) ?_ ?_
        rotate_left
        ·intro w'
         go_simp
         with_reducible rfl
        rotate_left
        ·simp only [Act.put, List.setIfInBounds_toArray, List.set_cons_zero, List.set_cons_succ, i64_w, i32_w]
         rfl
        refine take_ (i := 16) (N := some 44) (v := ?_) (a' := ?_) #[true, true, true, true, true, true, true, true, true, true, true, true, true, true, true, true, true, true, true, true, false, false, false] rfl rfl (take_ofW HT_.out HW_.out (by kernel_rfl)) (fun _ _ _ h => h) (Or.inl ⟨by rfl, ?_⟩) hHeld ?_ ?_
        rotate_left
        ·rintro w' ⟨s0, s1, s2, s3⟩
         go_simp
         with_reducible rfl
        rotate_left
        ·simp only [Act.put, List.setIfInBounds_toArray, List.set_cons_zero, List.set_cons_succ, i64_w, i32_w]
         rfl
        refine one_ (i := 20) (N := some 48) #[true, true, true, true, true, true, true, true, true, true, true, true, true, true, true, true, true, true, true, true, true, false, false] rfl rfl (one_of HT_.out (by kernel_rfl)) (by decide) (fun K hK => ?_)
        refine goes_ Tryd.func22 (by kernel_rfl) rfl #[.int .u32 a0, .int .i64 (wrap64 (x7_1 - 1))] (by rfl) rfl rfl (by (try simp only [List.map_toArray, List.map_cons, List.map_nil]); first | done | rfl | (simp only [List.length_drop, List.length_take]; rfl)) ?_
        with_reducible refine (addr_Of.calls a0 (wrap64 (x7_1 - 1)) t165 t166 _ A17.out).mono ?_
        rintro e w40 ⟨rfl, hb⟩
        refine ⟨_, rfl, ?_⟩
        have n0_ := Aside0.mk (blk_below (g := gb158) (o := .cells #[.int .u32 t156, .int .i64 t157] 24 (0, 0)) (by (with_reducible repeat (first | refine blk_drewN ?_ _ | refine blk_drew ?_ | refine blk_alloc ?_ _)); exact BK158.out) hb)
        have n1_ := Aside0.mk (blk_below (g := gb159) (o := .cells #[.int .u32 x160000_1, .int .i64 x160001_1] 24 (0, 0)) (by (with_reducible repeat (first | refine blk_drewN ?_ _ | refine blk_drew ?_ | refine blk_alloc ?_ _)); exact BK159.out) hb)
        have n2_ := Aside0.mk (blk_below (g := gb163) (o := .cells #[.int .u32 t160, .int .i64 t161] 24 (0, 0)) (by (with_reducible repeat (first | refine blk_drewN ?_ _ | refine blk_drew ?_ | refine blk_alloc ?_ _)); exact BK163.out) hb)
        have n3_ := Aside0.mk (below_step (by repeat (first | (with_reducible first | exact HB.out | apply below_alloc | apply pw_below_drewN | apply below_drew1 | refine below_set ?_ GE158.out | refine below_set ?_ GE159.out | refine below_set ?_ GE163.out) | exact HB.out)) hb)
        clear BK158
        clear BK159
        clear BK163
        clear HB
        have BK158 := n0_
        have BK159 := n1_
        have BK163 := n2_
        have HB := n3_
        clear n0_ n1_ n2_ n3_
        (try clear hb)
        (try clear hb2)
        (try clear hk)
        (try clear hi)
        refine hK.out _ _ ⟨(blk_cell BK163.out 0).trans rfl, (blk_cell BK163.out 1).trans rfl, (blk_cell BK158.out 0).trans rfl, (blk_cell BK158.out 1).trans rfl⟩ (fun hHeld => ?_)
        clear hK K
        refine norm_ (a' := ?_) ?_ ?_
        rotate_left
        ·show Act.put _ (some 48) _ = _
         simp only [Act.put, List.setIfInBounds_toArray, List.set_cons_zero, List.set_cons_succ, i64_w, i32_w]
         rfl
        refine pure_ (i := 21) (N := some 49) (v := ?_) (a' := ?_) #[true, true, true, true, true, true, true, true, true, true, true, true, true, true, true, true, true, true, true, true, true, true, false] rfl rfl (any_of HT_.out (by kernel_rfl)) (fun _ _ _ h => h) (Or.inl ⟨by rfl, ?_⟩) ?_ ?_
        rotate_left
        ·intro w'
         go_simp
         with_reducible rfl
        rotate_left
        ·simp only [Act.put, List.setIfInBounds_toArray, List.set_cons_zero, List.set_cons_succ, i64_w, i32_w]
         rfl
        refine pure_ (i := 22) (N := some 50) (v := ?_) (a' := ?_) #[true, true, true, true, true, true, true, true, true, true, true, true, true, true, true, true, true, true, true, true, true, true, true] rfl rfl (any_of HT_.out (by kernel_rfl)) (fun _ _ _ h => h) (Or.inl ⟨by rfl, ?_⟩) ?_ ?_
        rotate_left
        ·intro w'
         go_simp
         with_reducible rfl
        rotate_left
        ·simp only [Act.put, List.setIfInBounds_toArray, List.set_cons_zero, List.set_cons_succ, i64_w, i32_w]
         rfl
        refine done_ (done_of HT_.out (by kernel_rfl)) ?_
        have hcz41_0 : w40.cell? ⟨gb163, 0, none⟩ = some (.int .u32 t160) := (blk_cell BK163.out 0).trans rfl
        have hcz41_1 : w40.cell? ⟨gb163, 1, none⟩ = some (.int .i64 t161) := (blk_cell BK163.out 1).trans rfl
        have hfz41_0 := blk_frozen BK163.out 0
        have hfz41_1 := blk_frozen BK163.out 1
        have hcz42_0 : w40.cell? ⟨gb159, 0, none⟩ = some (.int .u32 x160000_1) := (blk_cell BK159.out 0).trans rfl
        have hcz42_1 : w40.cell? ⟨gb159, 1, none⟩ = some (.int .i64 x160001_1) := (blk_cell BK159.out 1).trans rfl
        have hfz42_0 := blk_frozen BK159.out 0
        have hfz42_1 := blk_frozen BK159.out 1
        try go_wp2
        go_roundg k1
        case measure => have := HK1.out; omega
        case rel => exact ⟨(wrap64 (x7_1 - 1)), (t160), (t161), (by first | rfl | (simp; done) | (simp [*]; done)), H', ⟨by have := HK1.out; omega⟩, ⟨by (with_reducible repeat (first | refine blk_drewN ?_ _ | refine blk_drew ?_ | refine blk_alloc ?_ _)); refine blk_far ?_ NB158_159.out _; (with_reducible repeat (first | refine blk_drewN ?_ _ | refine blk_drew ?_ | refine blk_alloc ?_ _)); refine blk_far ?_ NB158_159.out _; (with_reducible repeat (first | refine blk_drewN ?_ _ | refine blk_drew ?_ | refine blk_alloc ?_ _)); exact BK158.out⟩, ⟨by (with_reducible repeat (first | refine blk_drewN ?_ _ | refine blk_drew ?_ | refine blk_alloc ?_ _)); refine blk_put (cs := #[.int .u32 t160, .int .i64 x160001_1]) ?_ 1 _ rfl; (with_reducible repeat (first | refine blk_drewN ?_ _ | refine blk_drew ?_ | refine blk_alloc ?_ _)); refine blk_put (cs := #[.int .u32 x160000_1, .int .i64 x160001_1]) ?_ 0 _ rfl; (with_reducible repeat (first | refine blk_drewN ?_ _ | refine blk_drew ?_ | refine blk_alloc ?_ _)); exact BK159.out⟩, ⟨by repeat (first | (with_reducible first | exact HB.out | apply below_alloc | apply pw_below_drewN | apply below_drew1 | refine below_set ?_ GE158.out | refine below_set ?_ GE159.out | refine below_set ?_ GE163.out) | exact HB.out)⟩⟩
      ·replace c16 := Bool.eq_false_iff.mpr c16
       subst c16
       have H1 : (some false) = some r := by rw [if_neg (show ¬ (false = true) by decide)] at H; exact H
       clear H
       have H := H1
       clear H1
       exact absurd ((Option.some.inj H).trans hr) (by decide)
     ·rw [if_neg c14] at H
      have c14b0 : (t161 == (wrap64 (x7_1 - 1))) = false := beq_eq_false_iff_ne.mpr c14
      have c14b1 : (t161 != (wrap64 (x7_1 - 1))) = true := bne_iff_ne.mpr c14
      exact absurd ((Option.some.inj H).trans hr) (by decide)
    ·replace c13 := Bool.eq_false_iff.mpr c13
     subst c13
     have H1 : (some false) = some r := by rw [if_neg (show ¬ (false = true) by decide)] at H; exact H
     clear H
     have H := H1
     clear H1
     exact absurd ((Option.some.inj H).trans hr) (by decide)
   ·rw [if_neg c11] at H
    have c11b0 : decide (0 < x7_1) = false := decide_eq_false c11
    clear c11
    by_cases c71 : (!(x160000_1 == 0) || (!(x160001_1 == 0))) = true
    ·rw [if_pos c71] at H
     have c71b0 : (!(x160000_1 == 0) || (!(x160001_1 == 0))) = true := c71
     clear c71
     exact absurd ((Option.some.inj H).trans hr) (by decide)
    ·rw [if_neg c71] at H
     have c71b0 : (!(x160000_1 == 0) || (!(x160001_1 == 0))) = false := by simpa using c71
     clear c71
     have H' := Aside0.mk H
     clear H
     have hnb74 := NB159_158.out
     have hnc74 := NB158_159.out
     have hcz75_0 : wr.cell? ⟨gb159, 0, none⟩ = some (.int .u32 x160000_1) := (blk_cell BK159.out 0).trans rfl
     have hcz75_1 : wr.cell? ⟨gb159, 1, none⟩ = some (.int .i64 x160001_1) := (blk_cell BK159.out 1).trans rfl
     have hfz75_0 := blk_frozen BK159.out 0
     have hfz75_1 := blk_frozen BK159.out 1
     go_wp2
     go_loopg [10] k1 (fun kq v10 w' => ∃ (x10_2 : Int) (x160000_2 : Int) (x160001_2 : Int), v10 = .int .i64 x10_2 ∧ Aside0 (signpostlaw1_AddrWays.l1 kq a0 x10_2 x160000_2 x160001_2 = some r) ∧ Aside0 (kq ≤ k1) ∧ Aside0 (w'.heap[gb158]? = some (.cells #[.int .u32 t156, .int .i64 t157] 24 (0, 0))) ∧ Aside0 (w'.heap[gb159]? = some (.cells #[.int .u32 x160000_2, .int .i64 x160001_2] 24 (0, 0))) ∧ Aside0 (Below w.heap.size w w'))
     case atStart => exact ⟨(0), (x160000_1), (x160001_1), (by first | rfl | (simp; done) | (simp [*]; done)), H', ⟨Nat.le_refl _⟩, ⟨by (with_reducible repeat (first | refine blk_drewN ?_ _ | refine blk_drew ?_ | refine blk_alloc ?_ _)); exact BK158.out⟩, ⟨by (with_reducible repeat (first | refine blk_drewN ?_ _ | refine blk_drew ?_ | refine blk_alloc ?_ _)); exact BK159.out⟩, ⟨by repeat (first | (with_reducible first | exact HB.out | apply below_alloc | apply pw_below_drewN | apply below_drew1 | refine below_set ?_ GE158.out | refine below_set ?_ GE159.out) | exact HB.out)⟩⟩
     case round =>
      clear H'
      try clear c1
      try clear c2
      try clear p2
      try clear c5
      try clear c6
      try clear p6
      try clear c7
      try clear c11
      try clear c11b0
      try clear c13
      try clear c14
      try clear c14b0
      try clear c14b1
      try clear c19
      try clear c21
      try clear c53
      try clear c57
      try clear c58
      try clear c62
      try clear p64
      try clear c66
      try clear c67
      try clear c71
      try clear c71b0
      try clear c72
      try clear c74
      try clear hcz54_0
      try clear hcz54_1
      try clear hcz59_0
      try clear hcz59_1
      try clear hcz63_0
      try clear hcz63_1
      try clear hcz68_0
      try clear hcz68_1
      try clear hcz73_0
      try clear hcz73_1
      try clear hcz75_0
      try clear hcz75_1
      try clear hfz54_0
      try clear hfz54_1
      try clear hfz59_0
      try clear hfz59_1
      try clear hfz63_0
      try clear hfz63_1
      try clear hfz68_0
      try clear hfz68_1
      try clear hfz73_0
      try clear hfz73_1
      try clear hfz75_0
      try clear hfz75_1
      obtain ⟨x10_2, x160000_2, x160001_2, rfl, HA, HK2, BK158, BK159, HB⟩ := hrel
      cases gk with
      | zero => exact absurd HA.out (by simp [signpostlaw1_AddrWays.l1])
      | succ k2 =>
       have H := HA.out
       clear HA
       simp only [signpostlaw1_AddrWays.l1] at H
       by_cases c76 : x10_2 < 32
       ·rw [if_pos c76] at H
        have c76b0 : decide (x10_2 < 32) = true := decide_eq_true c76
        clear c76
        obtain ⟨ji77, hji77⟩ : ∃ j_ : Int, (IntKind.u64.wrap (wrap64 (31 - x10_2))) = j_ := ⟨_, rfl⟩
        replace H : (if 0 ≤ (ji77) then ((addr_Half.f k2 x160000_2 x160001_2 ((Go.bits .and .u32 (shr .u32 a0 (ji77)) 1) == 1)).bind fun bt168 => (if bt168.2.2 = true then ((addr_Has.f bt168.1 bt168.2.1 a0).bind fun t172 => (if t172 = true then (signpostlaw1_AddrWays.l1 k2 a0 (wrap64 (x10_2 + 1)) bt168.1 bt168.2.1) else (some false))) else (some false))) else (none)) = some r := by first | (rw [hji77] at H; exact H) | (simp only [hji77] at H ⊢; exact H)
        by_cases c78 : 0 ≤ (ji77)
        ·rw [if_pos c78] at H
         have c78b0 := eq_true c78
         have c78b1 : decide (0 ≤ (ji77)) = true := decide_eq_true c78
         clear c78
         obtain ⟨ji79, hji79⟩ : ∃ j_ : Int, (shr .u32 a0 (ji77)) = j_ := ⟨_, rfl⟩
         replace H : ((addr_Half.f k2 x160000_2 x160001_2 ((Go.bits .and .u32 (ji79) 1) == 1)).bind fun bt168 => (if bt168.2.2 = true then ((addr_Has.f bt168.1 bt168.2.1 a0).bind fun t172 => (if t172 = true then (signpostlaw1_AddrWays.l1 k2 a0 (wrap64 (x10_2 + 1)) bt168.1 bt168.2.1) else (some false))) else (some false))) = some r := by first | (rw [hji79] at H; exact H) | (simp only [hji79] at H ⊢; exact H)
         have hji79_ : (a0 / 2 ^ min (ji77).toNat 32) = ji79 := hji79
         have hji79z : (ji77) ≤ 32 → (a0 / 2 ^ (ji77).toNat) = ji79 := shr_small hji79
         replace H := Option.bind_eq_some_iff.mp H
         obtain ⟨⟨t168, t169, t170⟩, A800, H⟩ := H
         replace H : (if t170 = true then ((addr_Has.f t168 t169 a0).bind fun t172 => (if t172 = true then (signpostlaw1_AddrWays.l1 k2 a0 (wrap64 (x10_2 + 1)) t168 t169) else (some false))) else (some false)) = some r := H
         have A80 := Aside0.mk A800
         clear A800
         by_cases c81 : t170 = true
         ·subst c81
          have H1 : ((addr_Has.f t168 t169 a0).bind fun t172 => (if t172 = true then (signpostlaw1_AddrWays.l1 k2 a0 (wrap64 (x10_2 + 1)) t168 t169) else (some false))) = some r := by rw [if_pos rfl] at H; exact H
          clear H
          have H := H1
          clear H1
          replace H := Option.bind_eq_some_iff.mp H
          obtain ⟨t172, A820, H⟩ := H
          replace H : (if t172 = true then (signpostlaw1_AddrWays.l1 k2 a0 (wrap64 (x10_2 + 1)) t168 t169) else (some false)) = some r := H
          have A82 := Aside0.mk A820
          clear A820
          by_cases c83 : t172 = true
          ·subst c83
           have H1 : (signpostlaw1_AddrWays.l1 k2 a0 (wrap64 (x10_2 + 1)) t168 t169) = some r := by rw [if_pos rfl] at H; exact H
           clear H
           have H := H1
           clear H1
           have H' := Aside0.mk H
           clear H
           have hnb84 := NB159_158.out
           have hnc84 := NB158_159.out
           have hcz85_0 : wr.cell? ⟨gb159, 0, none⟩ = some (.int .u32 x160000_2) := (blk_cell BK159.out 0).trans rfl
           have hcz85_1 : wr.cell? ⟨gb159, 1, none⟩ = some (.int .i64 x160001_2) := (blk_cell BK159.out 1).trans rfl
           have hfz85_0 := blk_frozen BK159.out 0
           have hfz85_1 := blk_frozen BK159.out 1
           go_wp2_with (first | ((with_reducible refine gate_callee (f := 23) rfl ?_); refine goesL_ (some 68) rfl rfl Tryd.func23 (by kernel_rfl) rfl #[.agg #[.int .u32 x160000_2, .int .i64 x160001_2], .bool ((Go.bits .and .u32 (ji79) 1) == 1)] rfl (by (try simp only [List.map_toArray, List.map_cons, List.map_nil]); first | done | (simp only [hji79]; rfl) | rfl | (simp only [List.length_drop, List.length_take]; rfl)) ?_; (with_reducible refine (addr_Half.calls k2 x160000_2 x160001_2 ((Go.bits .and .u32 (ji79) 1) == 1) t168 t169 true _ A80.out).mono ?_); rintro e w86 ⟨rfl, hb⟩; refine ⟨_, rfl, ?_⟩; have n0_ := Aside0.mk (blk_below (g := gb158) (o := .cells #[.int .u32 t156, .int .i64 t157] 24 (0, 0)) (by (with_reducible repeat (first | refine blk_drewN ?_ _ | refine blk_drew ?_ | refine blk_alloc ?_ _)); exact BK158.out) hb); have n1_ := Aside0.mk (blk_below (g := gb159) (o := .cells #[.int .u32 x160000_2, .int .i64 x160001_2] 24 (0, 0)) (by (with_reducible repeat (first | refine blk_drewN ?_ _ | refine blk_drew ?_ | refine blk_alloc ?_ _)); exact BK159.out) hb); have n2_ := Aside0.mk (below_step (by repeat (first | (with_reducible first | exact HB.out | apply below_alloc | apply pw_below_drewN | apply below_drew1 | refine below_set ?_ GE158.out | refine below_set ?_ GE159.out) | exact HB.out)) hb); clear BK158; clear BK159; clear HB; have BK158 := n0_; have BK159 := n1_; have HB := n2_; clear n0_ n1_ n2_; (try clear hb); (try clear hb2); (try clear hk); (try clear hi)) | ((with_reducible refine gate_dst (N := 11) rfl ?_); refine box_event ?hg (N := 11) ?hd (cs := #[.int .u32 0, .int .i64 0]) (t := 24) ?hr ?_; (case hd => rfl); (case hg => rfl); (case hr => first | (go_simp; done) | (go_simp; rfl)); intro gb171 hg w87 hbox hb; have n0_ := Aside0.mk (blk_below (g := gb158) (o := .cells #[.int .u32 t156, .int .i64 t157] 24 (0, 0)) (by (with_reducible repeat (first | refine blk_drewN ?_ _ | refine blk_drew ?_ | refine blk_alloc ?_ _)); exact BK158.out) hb); have n1_ := Aside0.mk (blk_below (g := gb159) (o := .cells #[.int .u32 x160000_2, .int .i64 x160001_2] 24 (0, 0)) (by (with_reducible repeat (first | refine blk_drewN ?_ _ | refine blk_drew ?_ | refine blk_alloc ?_ _)); exact BK159.out) hb); have n2_ := Aside0.mk (below_step (by repeat (first | (with_reducible first | exact HB.out | apply below_alloc | apply pw_below_drewN | apply below_drew1 | refine below_set ?_ GE158.out | refine below_set ?_ GE159.out) | exact HB.out)) hb); have n3_ := Aside0.mk (hbox); have n4_ := Aside0.mk ((by rw [hg]; exact (below_size (by repeat (first | (with_reducible first | exact HB.out | apply below_alloc | apply pw_below_drewN | apply below_drew1 | refine below_set ?_ GE158.out | refine below_set ?_ GE159.out) | exact HB.out))) : w.heap.size ≤ gb171)); have n5_ := Aside0.mk ((by rw [hg]; exact (below_size (by repeat (first | (with_reducible first | exact HB.out | apply below_alloc | apply pw_below_drewN | apply below_drew1 | refine below_set ?_ GE158.out | refine below_set ?_ GE159.out) | exact HB.out))) : w.heap.size ≤ gb171)); have n6_ := Aside0.mk ((by rw [hg]; exact Nat.ne_of_lt (blk_lt (g := gb158) (o := .cells #[.int .u32 t156, .int .i64 t157] 24 (0, 0)) (by (with_reducible repeat (first | refine blk_drewN ?_ _ | refine blk_drew ?_ | refine blk_alloc ?_ _)); exact BK158.out)) : gb158 ≠ gb171)); have n7_ := Aside0.mk ((by rw [hg]; exact Nat.ne_of_gt (blk_lt (g := gb158) (o := .cells #[.int .u32 t156, .int .i64 t157] 24 (0, 0)) (by (with_reducible repeat (first | refine blk_drewN ?_ _ | refine blk_drew ?_ | refine blk_alloc ?_ _)); exact BK158.out)) : gb171 ≠ gb158)); have n8_ := Aside0.mk ((by rw [hg]; exact Nat.ne_of_lt (blk_lt (g := gb159) (o := .cells #[.int .u32 x160000_2, .int .i64 x160001_2] 24 (0, 0)) (by (with_reducible repeat (first | refine blk_drewN ?_ _ | refine blk_drew ?_ | refine blk_alloc ?_ _)); exact BK159.out)) : gb159 ≠ gb171)); have n9_ := Aside0.mk ((by rw [hg]; exact Nat.ne_of_gt (blk_lt (g := gb159) (o := .cells #[.int .u32 x160000_2, .int .i64 x160001_2] 24 (0, 0)) (by (with_reducible repeat (first | refine blk_drewN ?_ _ | refine blk_drew ?_ | refine blk_alloc ?_ _)); exact BK159.out)) : gb171 ≠ gb159)); clear BK158; clear BK159; clear HB; have BK158 := n0_; have BK159 := n1_; have HB := n2_; have BK171 := n3_; have GW171 := n4_; have GE171 := n5_; have NB158_171 := n6_; have NB171_158 := n7_; have NB159_171 := n8_; have NB171_159 := n9_; clear n0_ n1_ n2_ n3_ n4_ n5_ n6_ n7_ n8_ n9_; clear hb hbox hg; have hnb88 := NB171_158.out; have hnc88 := NB158_171.out; have hnb89 := NB171_159.out; have hnc89 := NB159_171.out; have hcz90_0 : w87.cell? ⟨gb171, 0, none⟩ = some (.int .u32 0) := (blk_cell BK171.out 0).trans rfl; have hcz90_1 : w87.cell? ⟨gb171, 1, none⟩ = some (.int .i64 0) := (blk_cell BK171.out 1).trans rfl; have hfz90_0 := blk_frozen BK171.out 0; have hfz90_1 := blk_frozen BK171.out 1) | (go_at_call 17; (with_reducible refine (addr_Has.calls t168 t169 a0 true _ A82.out).mono ?_); rintro e w91 ⟨rfl, hb⟩; have n0_ := Aside0.mk (blk_below (g := gb158) (o := .cells #[.int .u32 t156, .int .i64 t157] 24 (0, 0)) (by (with_reducible repeat (first | refine blk_drewN ?_ _ | refine blk_drew ?_ | refine blk_alloc ?_ _)); refine blk_far ?_ NB158_171.out _; (with_reducible repeat (first | refine blk_drewN ?_ _ | refine blk_drew ?_ | refine blk_alloc ?_ _)); refine blk_far ?_ NB158_171.out _; (with_reducible repeat (first | refine blk_drewN ?_ _ | refine blk_drew ?_ | refine blk_alloc ?_ _)); exact BK158.out) hb); have n1_ := Aside0.mk (blk_below (g := gb159) (o := .cells #[.int .u32 x160000_2, .int .i64 x160001_2] 24 (0, 0)) (by (with_reducible repeat (first | refine blk_drewN ?_ _ | refine blk_drew ?_ | refine blk_alloc ?_ _)); refine blk_far ?_ NB159_171.out _; (with_reducible repeat (first | refine blk_drewN ?_ _ | refine blk_drew ?_ | refine blk_alloc ?_ _)); refine blk_far ?_ NB159_171.out _; (with_reducible repeat (first | refine blk_drewN ?_ _ | refine blk_drew ?_ | refine blk_alloc ?_ _)); exact BK159.out) hb); have n2_ := Aside0.mk (blk_below (g := gb171) (o := .cells #[.int .u32 t168, .int .i64 t169] 24 (0, 0)) (by (with_reducible repeat (first | refine blk_drewN ?_ _ | refine blk_drew ?_ | refine blk_alloc ?_ _)); refine blk_put (cs := #[.int .u32 t168, .int .i64 0]) ?_ 1 _ rfl; (with_reducible repeat (first | refine blk_drewN ?_ _ | refine blk_drew ?_ | refine blk_alloc ?_ _)); refine blk_put (cs := #[.int .u32 0, .int .i64 0]) ?_ 0 _ rfl; (with_reducible repeat (first | refine blk_drewN ?_ _ | refine blk_drew ?_ | refine blk_alloc ?_ _)); exact BK171.out) hb); have n3_ := Aside0.mk (below_step (by repeat (first | (with_reducible first | exact HB.out | apply below_alloc | apply pw_below_drewN | apply below_drew1 | refine below_set ?_ GE158.out | refine below_set ?_ GE159.out | refine below_set ?_ GE171.out) | exact HB.out)) hb); clear BK158; clear BK159; clear BK171; clear HB; have BK158 := n0_; have BK159 := n1_; have BK171 := n2_; have HB := n3_; clear n0_ n1_ n2_ n3_; (try clear hb); (try clear hb2); (try clear hk); (try clear hi); have hcz92_0 : w91.cell? ⟨gb171, 0, none⟩ = some (.int .u32 t168) := (blk_cell BK171.out 0).trans rfl; have hcz92_1 : w91.cell? ⟨gb171, 1, none⟩ = some (.int .i64 t169) := (blk_cell BK171.out 1).trans rfl; have hfz92_0 := blk_frozen BK171.out 0; have hfz92_1 := blk_frozen BK171.out 1; have hcz93_0 : w91.cell? ⟨gb159, 0, none⟩ = some (.int .u32 x160000_2) := (blk_cell BK159.out 0).trans rfl; have hcz93_1 : w91.cell? ⟨gb159, 1, none⟩ = some (.int .i64 x160001_2) := (blk_cell BK159.out 1).trans rfl; have hfz93_0 := blk_frozen BK159.out 0; have hfz93_1 := blk_frozen BK159.out 1))
           go_roundg k2
           case measure => have := HK1.out; have := HK2.out; omega
           case rel => exact ⟨(wrap64 (x10_2 + 1)), (t168), (t169), (by first | rfl | (simp; done) | (simp [*]; done)), H', ⟨by have := HK1.out; have := HK2.out; omega⟩, ⟨by (with_reducible repeat (first | refine blk_drewN ?_ _ | refine blk_drew ?_ | refine blk_alloc ?_ _)); refine blk_far ?_ NB158_159.out _; (with_reducible repeat (first | refine blk_drewN ?_ _ | refine blk_drew ?_ | refine blk_alloc ?_ _)); refine blk_far ?_ NB158_159.out _; (with_reducible repeat (first | refine blk_drewN ?_ _ | refine blk_drew ?_ | refine blk_alloc ?_ _)); exact BK158.out⟩, ⟨by (with_reducible repeat (first | refine blk_drewN ?_ _ | refine blk_drew ?_ | refine blk_alloc ?_ _)); refine blk_put (cs := #[.int .u32 t168, .int .i64 x160001_2]) ?_ 1 _ rfl; (with_reducible repeat (first | refine blk_drewN ?_ _ | refine blk_drew ?_ | refine blk_alloc ?_ _)); refine blk_put (cs := #[.int .u32 x160000_2, .int .i64 x160001_2]) ?_ 0 _ rfl; (with_reducible repeat (first | refine blk_drewN ?_ _ | refine blk_drew ?_ | refine blk_alloc ?_ _)); exact BK159.out⟩, ⟨by repeat (first | (with_reducible first | exact HB.out | apply below_alloc | apply pw_below_drewN | apply below_drew1 | refine below_set ?_ GE158.out | refine below_set ?_ GE159.out | refine below_set ?_ GE171.out) | exact HB.out)⟩⟩
          ·replace c83 := Bool.eq_false_iff.mpr c83
           subst c83
           have H1 : (some false) = some r := by rw [if_neg (show ¬ (false = true) by decide)] at H; exact H
           clear H
           have H := H1
           clear H1
           exact absurd ((Option.some.inj H).trans hr) (by decide)
         ·replace c81 := Bool.eq_false_iff.mpr c81
          subst c81
          have H1 : (some false) = some r := by rw [if_neg (show ¬ (false = true) by decide)] at H; exact H
          clear H
          have H := H1
          clear H1
          exact absurd ((Option.some.inj H).trans hr) (by decide)
        ·rw [if_neg c78] at H
         exact absurd H (by simp)
       ·rw [if_neg c76] at H
        have c76b0 : decide (x10_2 < 32) = false := decide_eq_false c76
        clear c76
        by_cases c109 : (x160000_2 == a0 && (x160001_2 == 32)) = true
        ·rw [if_pos c109] at H
         have c109b0 : (x160000_2 == a0 && (x160001_2 == 32)) = true := c109
         (try (have c109b1 : decide (x160000_2 = a0 && (x160001_2 == 32)) = true := by simpa using c109))
         (try (have c109b2 : (x160000_2 == a0 && (x160001_2 == 32)) = true := by simpa using c109))
         clear c109
         replace H := Option.bind_eq_some_iff.mp H
         obtain ⟨t167, A1100, H⟩ := H
         replace H : (some t167) = some r := H
         have A110 := Aside0.mk A1100
         clear A1100
         obtain rfl := Option.some.inj H
         have hnb111 := NB159_158.out
         have hnc111 := NB158_159.out
         have hcz112_0 : wr.cell? ⟨gb159, 0, none⟩ = some (.int .u32 x160000_2) := (blk_cell BK159.out 0).trans rfl
         have hcz112_1 : wr.cell? ⟨gb159, 1, none⟩ = some (.int .i64 x160001_2) := (blk_cell BK159.out 1).trans rfl
         have hfz112_0 := blk_frozen BK159.out 0
         have hfz112_1 := blk_frozen BK159.out 1
         go_wp2_with (first | (go_at_call 15; (with_reducible refine (signpostlaw1_known.calls  t167 _ (HENV.out.below (by repeat (first | (with_reducible first | exact HB.out | apply below_alloc | apply pw_below_drewN | apply below_drew1 | refine below_set ?_ GE158.out | refine below_set ?_ GE159.out) | exact HB.out))) A110.out).mono ?_); rintro e w113 ⟨rfl, hb⟩; have n0_ := Aside0.mk (blk_below (g := gb158) (o := .cells #[.int .u32 t156, .int .i64 t157] 24 (0, 0)) (by (with_reducible repeat (first | refine blk_drewN ?_ _ | refine blk_drew ?_ | refine blk_alloc ?_ _)); exact BK158.out) hb); have n1_ := Aside0.mk (blk_below (g := gb159) (o := .cells #[.int .u32 x160000_2, .int .i64 x160001_2] 24 (0, 0)) (by (with_reducible repeat (first | refine blk_drewN ?_ _ | refine blk_drew ?_ | refine blk_alloc ?_ _)); exact BK159.out) hb); have n2_ := Aside0.mk (below_step (by repeat (first | (with_reducible first | exact HB.out | apply below_alloc | apply pw_below_drewN | apply below_drew1 | refine below_set ?_ GE158.out | refine below_set ?_ GE159.out) | exact HB.out)) hb); clear BK158; clear BK159; clear HB; have BK158 := n0_; have BK159 := n1_; have HB := n2_; clear n0_ n1_ n2_; (try clear hb); (try clear hb2); (try clear hk); (try clear hi)))
         go_ret
         exact ⟨by first | rfl | (simp [errW_none, errW_some] <;> rfl) | (simp [*, errW_none, errW_some] <;> rfl), by repeat (first | (with_reducible first | exact HB.out | apply below_alloc | apply pw_below_drewN | apply below_drew1 | refine below_set ?_ GE158.out | refine below_set ?_ GE159.out) | exact HB.out)⟩
        ·rw [if_neg c109] at H
         have c109b0 : (x160000_2 == a0 && (x160001_2 == 32)) = false := by simpa using c109
         (try (have c109b1 : decide (x160000_2 = a0 && (x160001_2 == 32)) = false := by simpa using c109))
         (try (have c109b2 : (x160000_2 == a0 && (x160001_2 == 32)) = false := by simpa using c109))
         (try (have c109b3 : ¬ (x160000_2 = a0 && (x160001_2 == 32)) := by simpa using c109))
         clear c109
         exact absurd ((Option.some.inj H).trans hr) (by decide)
end Go.Proofs.YtokfgajfkopelaaDoor.BP
namespace Go.Proofs.YtokfgajfkopelaaDoor.Mine
open Go.RowKit Go.Proofs.YtokfgajfkopelaaDoorW.PrintWords Go.Proofs.YtokfgajfkopelaaDoorW.PrintLast Go.Proofs.YtokfgajfkopelaaDoorW.PrintMore
set_option linter.unusedVariables false
set_option linter.unusedSimpArgs false
theorem up_cut (a i : Int) (a0 : 0 ≤ a) (a1 : a < 4294967296) (i0 : 0 < i) (i1 : i ≤ 32) : upP (cutI a i) i = (cutI a (i - 1), i - 1, true) := by
  unfold upP
  rw [if_pos (right_cut a i (by omega) i1), if_neg (by omega), cutI_cut a (i - 1) i (by omega) i1]
theorem bit_next (a i : Int) (a0 : 0 ≤ a) (i0 : 0 ≤ i) (i1 : i < 32) : cutI a (i + 1) = cutI a i + (if a / lo (i + 1) % 2 = 1 then lo (i + 1) else 0) := by
  obtain ⟨x, rfl⟩ := Int.eq_ofNat_of_zero_le a0
  unfold cutI
  have hh := lo_half i i0 i1
  have hp := lo_pos (i + 1)
  obtain ⟨L, hL⟩ := Int.eq_ofNat_of_zero_le (Int.le_of_lt hp)
  rw [hh, hL]
  have h := Nat.mod_mul (x := x) (a := L) (b := 2)
  have h2 : ((x : Int) % (2 * (L : Int))) = ((x % (L * 2) : Nat) : Int) := by rw [Int.natCast_emod, Int.natCast_mul, Int.mul_comm]; rfl
  have h3 : ((x : Int) / (L : Int)) % 2 = ((x / L % 2 : Nat) : Int) := by rw [Int.natCast_emod, Int.natCast_ediv]; rfl
  have h4 : ((x : Int) % (L : Int)) = ((x % L : Nat) : Int) := by rw [Int.natCast_emod]
  rw [h2, h3, h4, h]
  rcases Nat.mod_two_eq_zero_or_one (x / L) with e | e
  · rw [e]
    simp
  · rw [e]
    simp
    omega
theorem half_cut (a i : Int) (a0 : 0 ≤ a) (a1 : a < 4294967296) (i0 : 0 ≤ i) (i1 : i < 32) : halfP (cutI a i) i (bits .and .u32 (shr .u32 a (31 - i)) 1 == 1) = (cutI a (i + 1), i + 1, true) := by
  have hp := lo_pos (i + 1)
  have e1 : shr .u32 a (31 - i) = a / lo (i + 1) := by
    unfold shr lo
    have hb : min (31 - i).toNat IntKind.u32.bits = (32 - (i + 1)).toNat := by
      have : IntKind.u32.bits = 32 := rfl
      omega
    rw [hb]
  have e0 : 0 ≤ a / lo (i + 1) := Int.ediv_nonneg a0 (Int.le_of_lt hp)
  have e2 : a / lo (i + 1) ≤ a := Int.ediv_le_self _ a0
  have h := bits_mask .u32 32 (by decide) (fun x x0 x1 => by rw [IntKind.wrap_u32]; exact Int.emod_eq_of_lt x0 (by exact x1)) 1 (by decide) (a / lo (i + 1)) e0 (by show a / lo (i + 1) < 4294967296; omega)
  rw [show ((2 : Int) ^ 1 - 1) = 1 by decide, show ((2 : Int) ^ 1) = 2 by decide] at h
  rw [e1, h]
  unfold halfP
  rw [if_pos (right_cut a i i0 (by omega)), if_neg (by omega), bit_next a i a0 i0 i1]
  by_cases hq : a / lo (i + 1) % 2 = 1
  · rw [if_pos (by rw [hq]; rfl), if_pos hq]
  · rw [if_neg (by simpa using hq), if_neg hq, Int.add_zero]
theorem ways_l1 (a : Int) (a0 : 0 ≤ a) (a1 : a < 4294967296) : ∀ (d k i : Nat), i + d = 32 → d + 1 < k → BP.signpostlaw1_AddrWays.l1 k a i (cutI a i) i = some true := by
  intro d
  induction d with
  | zero =>
    intro k i hi hk
    obtain ⟨k, rfl⟩ : ∃ j, k = j + 1 := ⟨k - 1, by omega⟩
    obtain rfl : i = 32 := by omega
    simp only [BP.signpostlaw1_AddrWays.l1]
    have e : cutI a ((32 : Nat) : Int) = a := by
      unfold cutI
      rw [show ((32 : Nat) : Int) = 32 from rfl, lo_32]
      omega
    rw [e, if_neg (by decide), if_pos (by simp), known_f]
    rfl
  | succ d ih =>
    intro k i hi hk
    obtain ⟨k, rfl⟩ : ∃ j, k = j + 1 := ⟨k - 1, by omega⟩
    simp only [BP.signpostlaw1_AddrWays.l1]
    obtain ⟨k, rfl⟩ : ∃ j, k = j + 1 := ⟨k - 1, by omega⟩
    have hc := cutI_range a (i : Int) a0 a1
    have hc2 := cutI_range a ((i : Int) + 1) a0 a1
    rw [if_pos (by omega), wrap64_id (31 - (i : Int)) (by omega) (by omega), u64_id _ (by omega) (by omega), if_pos (by omega), half_f k _ _ _ hc.1 hc.2.2, half_cut a i a0 a1 (by omega) (by omega)]
    simp only [Option.bind_some, if_true]
    rw [has_f _ _ _ hc2.1 hc2.2.2 a0 a1, (hasB_iff _ _ _ (right_cut a ((i : Int) + 1) (by omega) (by omega))).2 rfl, Option.bind_some, if_pos rfl, wrap64_id _ (by omega) (by omega), show (i : Int) + 1 = ((i + 1 : Nat) : Int) by omega]
    exact ih (k + 1) (i + 1) (by omega) (by omega)
theorem ways_l0 (a N : Int) (a0 : 0 ≤ a) (a1 : a < 4294967296) (N1 : N ≤ 32) : ∀ (i k : Nat), (i : Int) ≤ N → i + 40 < k → BP.signpostlaw1_AddrWays.l0 k a i (cutI a N) N (cutI a i) i = some true := by
  intro i
  induction i with
  | zero =>
    intro k hi hk
    obtain ⟨k, rfl⟩ : ∃ j, k = j + 1 := ⟨k - 1, by omega⟩
    simp only [BP.signpostlaw1_AddrWays.l0]
    have e : cutI a ((0 : Nat) : Int) = 0 := cutI_zero a a0 a1
    rw [if_neg (by omega), if_neg (by rw [e]; simp)]
    exact ways_l1 a a0 a1 32 k 0 (by omega) (by omega)
  | succ i ih =>
    intro k hi hk
    obtain ⟨k, rfl⟩ : ∃ j, k = j + 1 := ⟨k - 1, by omega⟩
    simp only [BP.signpostlaw1_AddrWays.l0]
    have hc := cutI_range a ((i + 1 : Nat) : Int) a0 a1
    have hc2 := cutI_range a (i : Int) a0 a1
    have hN := cutI_range a N a0 a1
    have e1 : ((i + 1 : Nat) : Int) - 1 = (i : Int) := by omega
    rw [if_pos (by omega), up_f _ _ hc.1 hc.2.2, up_cut a _ a0 a1 (by omega) (by omega), e1, wrap64_id (i : Int) (by omega) (by omega)]
    simp only [Option.bind_some, if_true]
    rw [covers_f _ _ _ _ hc2.1 hc2.2.2 hN.1 hN.2.2, (coversB_iff _ _ _ _ (right_cut a i (by omega) (by omega)) (right_cut a N (by omega) N1)).2 ⟨cutI_cut a i N (by omega) N1, by omega⟩, of_f a i a0 a1 (by omega), clampI_in (i : Int) (by omega) (by omega)]
    simp only [Option.bind_some, if_true]
    rw [if_neg (by simp)]
    exact ih k (by omega) (by omega)
theorem AddrWays_plain (k : Nat) (hk : 80 ≤ k) (a n : Int) (a0 : 0 ≤ a) (a1 : a < 4294967296) (n0 : -9223372036854775808 ≤ n) (n1 : n ≤ 9223372036854775807) : BP.signpostlaw1_AddrWays.f k a n = some true := by
  unfold BP.signpostlaw1_AddrWays.f
  rw [any_f k (by omega) a n a0 a1 n0 n1]
  simp only [Option.bind_some]
  obtain ⟨i, hi⟩ := Int.eq_ofNat_of_zero_le (show 0 ≤ n % 33 by omega)
  rw [hi]
  exact ways_l0 a i a0 a1 (by omega) i k (by omega) (by omega)
theorem AddrWays_row (a0 a1 : Int) (w0 : (Lit.int .u32 a0).wf = true) (w1 : (Lit.int .i64 a1).wf = true) (w : World) (henv : Env w) : Calls Tryd.prog 7 #[.int .u32 a0, .int .i64 a1] w fun e w' => e = .returned (.bool true) ∧ Below w.heap.size w w' :=
  BP.signpostlaw1_AddrWays.calls 80 a0 a1 true rfl w henv (AddrWays_plain 80 (Nat.le_refl _) a0 a1 (wf_u32 w0).1 (wf_u32 w0).2 (wf_i64 w1).1 (wf_i64 w1).2)
end Go.Proofs.YtokfgajfkopelaaDoor.Mine
namespace Go.Proofs.YtokfgajfkopelaaDoor.addrWays
open Go.ChangeShapes Go.WideShapes Go.ChangeAt Go.RowKit
open Go.ChangeMaps (open_string shut_string)
set_option linter.unusedVariables false
theorem own : ownKnob Tryd.prog.godebug = none := by kernel_rfl
def put (cs : Array Value) : Obj → Obj
  | .cells _ t frozen => .cells cs t frozen
  | o => o
noncomputable def laidWorld (os : Os) : World :=
  { World.holding Tryd.prog os ⟨#[], #[], []⟩ with heap := ((((((World.holding Tryd.prog os ⟨#[], #[], []⟩).heap.modify 4 (put #[.int .u8 0, .int .u8 1, .int .u8 28, .int .u8 2, .int .u8 29, .int .u8 14, .int .u8 24, .int .u8 3, .int .u8 30, .int .u8 22, .int .u8 20, .int .u8 15, .int .u8 25, .int .u8 17, .int .u8 4, .int .u8 8, .int .u8 31, .int .u8 27, .int .u8 13, .int .u8 23, .int .u8 21, .int .u8 19, .int .u8 16, .int .u8 7, .int .u8 26, .int .u8 12, .int .u8 18, .int .u8 6, .int .u8 11, .int .u8 5, .int .u8 10, .int .u8 9])).modify 5 (put #[.int .u8 0, .int .u8 1, .int .u8 56, .int .u8 2, .int .u8 57, .int .u8 49, .int .u8 28, .int .u8 3, .int .u8 61, .int .u8 58, .int .u8 42, .int .u8 50, .int .u8 38, .int .u8 29, .int .u8 17, .int .u8 4, .int .u8 62, .int .u8 47, .int .u8 59, .int .u8 36, .int .u8 45, .int .u8 43, .int .u8 51, .int .u8 22, .int .u8 53, .int .u8 39, .int .u8 33, .int .u8 30, .int .u8 24, .int .u8 18, .int .u8 12, .int .u8 5, .int .u8 63, .int .u8 55, .int .u8 48, .int .u8 27, .int .u8 60, .int .u8 41, .int .u8 37, .int .u8 16, .int .u8 46, .int .u8 35, .int .u8 44, .int .u8 21, .int .u8 52, .int .u8 32, .int .u8 23, .int .u8 11, .int .u8 54, .int .u8 26, .int .u8 40, .int .u8 15, .int .u8 34, .int .u8 20, .int .u8 31, .int .u8 10, .int .u8 25, .int .u8 14, .int .u8 19, .int .u8 9, .int .u8 13, .int .u8 8, .int .u8 7, .int .u8 6])).modify 1 (put #[.int .u64 1, .int .u64 10, .int .u64 100, .int .u64 1000, .int .u64 10000, .int .u64 100000, .int .u64 1000000, .int .u64 10000000, .int .u64 100000000, .int .u64 1000000000, .int .u64 10000000000, .int .u64 100000000000, .int .u64 1000000000000, .int .u64 10000000000000, .int .u64 100000000000000, .int .u64 1000000000000000, .int .u64 10000000000000000, .int .u64 100000000000000000, .int .u64 1000000000000000000, .int .u64 10000000000000000000])).modify 3 (put #[.int .u8 128, .int .u8 191, .int .u8 160, .int .u8 191, .int .u8 128, .int .u8 159, .int .u8 144, .int .u8 191, .int .u8 128, .int .u8 143, .int .u8 0, .int .u8 0, .int .u8 0, .int .u8 0, .int .u8 0, .int .u8 0, .int .u8 0, .int .u8 0, .int .u8 0, .int .u8 0, .int .u8 0, .int .u8 0, .int .u8 0, .int .u8 0, .int .u8 0, .int .u8 0, .int .u8 0, .int .u8 0, .int .u8 0, .int .u8 0, .int .u8 0, .int .u8 0])).modify 2 (put (Go.Pinned.utf8FirstZ.map fun z => Value.int .u8 (z : Nat)).toArray)) }
theorem laid_met (os : Os) : laidMet Tryd.prog Rows.addrWaysRow.laid ((laidWorld os).forCall (fun _ _ => 0) ⟨#[], #[.int .u32 0, .int .i64 0], []⟩).memory :=
  laidMet_of_run' 8 (by kernel_rfl) (by kernel_rfl)
theorem reads (os : Os) {H : Type} (enc : TypeId × Value → H) : ∃ places, DataW.whole enc Tryd.prog ((laidWorld os).forCall (fun _ _ => 0) ⟨#[], #[.int .u32 0, .int .i64 0], []⟩).memory Tryd.f7.params.toList Rows.addrWaysSpec.vars false (#[.int .u32 0, .int .i64 0] : Array Value).toList 8 = some ([.lit (.int .u32 0), .lit (.int .i64 0)], [], places) :=
  ⟨[], by kernel_rfl⟩
set_option maxRecDepth 100000 in
theorem lifted (os : Os) (started : os.Started) (H : Type) (enc : TypeId × Value → H) (F : Stop.Interp) :
    ReturnsInHanded {} Tryd.checked os 7 .any ((OpenSpec.ofChange Rows.addrWaysSpec).preRow enc Tryd.prog Tryd.f7 Rows.addrWaysRow.domain false Rows.addrWaysRow.laid) (((OpenSpec.ofChange Rows.addrWaysSpec).at F).post enc Tryd.prog Tryd.f7 false true false false) := by
  obtain ⟨places, hx⟩ := reads os enc
  refine returnsInHanded_of_row (C := Tryd.checked) (s := OpenSpec.ofChange Rows.addrWaysSpec) own started (by kernel_rfl) Tryd.func7
    (witness_row_at (enc := enc) (C := Tryd.checked) false (laidWorld os) #[.int .u32 0, .int .i64 0] rfl (by kernel_rfl) (by kernel_rfl) (by kernel_rfl)
      (OpenSpec.preRow_of_cond 8 hx (by kernel_rfl) (fun k hk => by cases hk) (by kernel_rfl) (laid_met os))) ?_
  intro W base args ds gs before hval0 hW _ _ hsz0 hL hShape _
  have henv : Mine.Env W := Mine.env_of_row hL hShape
  have hsz : (DataW.weightsEach Tryd.prog (Tryd.f7.params.toList ++ (OpenSpec.ofChange Rows.addrWaysSpec).bare.plain.varTypes Tryd.prog) (ds ++ gs)).all (· ≤ reachBytes) = true := hsz0
  have hval : ∀ (j : Nat) t v, Tryd.f7.params[j]? = some t → args[j]? = some v → Value.okWide Tryd.prog W .any base t v := hval0
  have hW' := hW
  obtain ⟨p, q, hA0, hV, rfl, hfz, hnd⟩ := hW
  have hA : DataW.TrodAll enc Tryd.prog W 0 (fun _ => true) true Tryd.f7.params.toList args.toList ds p := hA0
  rw [Tryd.params7] at hA hval hsz
  obtain ⟨v0, vs0, d0, ds0, p0, q0, hargs, rfl, rfl, h0, r0⟩ := trodAll_cons hA
  obtain ⟨v1, vs1, d1, ds1, p1, q1, rfl, rfl, rfl, h1, r1⟩ := trodAll_cons r0
  obtain ⟨rfl, rfl, rfl⟩ := trodAll_nil r1
  obtain rfl : args = #[v0, v1] := by cases args; simp_all
  obtain ⟨rfl, rfl⟩ := trodVars_none hV
  obtain ⟨a0, rfl, rfl, rfl, w0⟩ := open_int Tryd.underlying22 (hval 0 22 v0 rfl rfl) h0
  obtain ⟨a1, rfl, rfl, rfl, w1⟩ := open_int Tryd.underlying3 (hval 1 3 v1 rfl rfl) h1
  clear hA0 hval0 hsz0 hsz
  refine (Mine.AddrWays_row a0 a1 w0 w1 W henv).mono fun e W' ⟨he, bel⟩ => ?_
  subst he
  exact ⟨_, rfl, _, _, _, [], _, [], hW', trodAll_mk1 (shut_bool Tryd.underlying4 _), (trodAll_cons_mk (shut_int Tryd.underlying22 w0) (trodAll_cons_mk (shut_int Tryd.underlying3 w1) trodAll_mk0)), rfl, bel.frame _, fun h => by cases h⟩
theorem said : Rows.AddrWaysSaid :=
  OpenClaim.holds_of_cond 7 Tryd.f7 rfl rfl rfl rfl rfl rfl rfl ⟨rfl, rfl, rfl, rfl, rfl⟩ rfl rfl rfl rfl rfl (by kernel_rfl) Tryd.func7 (by kernel_rfl)
    (of_decide_eq_true (by kernel_rfl)) (by unfold Func.isWrapper; first | (rw [if_pos (by decide +kernel)]; kernel_rfl) | (rw [if_neg (by decide +kernel)]; exact ⟨rfl, rfl⟩))
    (fun os started H enc _ F => by rw [OpenClaim.pre_eq_preRow]; exact lifted os started H enc F)
theorem plain (f : FuncId) (fn : Func) (hf : Tryd.pinned.checked.prog.funcNamed "signpost/signpostlaw1.AddrWays" = some f) (hfn : Tryd.pinned.checked.prog.funcs[f]? = some fn) :
    false = Tryd.pinned.checked.prog.looks [] ∧ ∀ (j : Nat) t, fn.params[j]? = some t → Tryd.pinned.checked.prog.wantsStandIn t = false := by
  obtain rfl : f = 7 := Option.some.inj ((show Tryd.prog.funcNamed "signpost/signpostlaw1.AddrWays" = some 7 by kernel_rfl).symm.trans hf) |>.symm
  obtain rfl : fn = Tryd.f7 := (Option.some.inj (Tryd.func7.symm.trans hfn)).symm
  refine ⟨by kernel_rfl, fun j t ht => ?_⟩
  rw [Tryd.params7] at ht
  rcases j with _ | _ | j
  · obtain rfl : 22 = t := by simpa using ht
    exact (show Tryd.prog.wantsStandIn 22 = false by kernel_rfl)
  · obtain rfl : 3 = t := by simpa using ht
    exact (show Tryd.prog.wantsStandIn 3 = false by kernel_rfl)
  · simp at ht
theorem card : Rows.AddrWaysCardSaid :=
  Claim7.holds_tied_plain_at .later [] _ _ _ _ said (fun _ h => by cases h) (by kernel_rfl) (fun _ h => by cases h) addrWays_row_tie rfl ⟨rfl, rfl⟩ (by kernel_rfl) rfl plain (by kernel_rfl)
end Go.Proofs.YtokfgajfkopelaaDoor.addrWays
namespace Go.Proofs.YtokfgajfkopelaaDoor
theorem addrWays_holds : Rows.AddrWaysCardSaid := addrWays.card
#print axioms addrWays_holds
end Go.Proofs.YtokfgajfkopelaaDoor
