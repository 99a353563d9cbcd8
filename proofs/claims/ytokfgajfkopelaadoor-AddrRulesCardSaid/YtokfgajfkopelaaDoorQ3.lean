/- Contracts and laws that the claim needs, packed from several texts. -/
import Derived.Test.YtokfgajfkopelaaDoorQ2
namespace Go.Proofs.YtokfgajfkopelaaDoor.BP
open Go.Proofs.YtokfgajfkopelaaDoor.Mine
open Go.RowKit Go.Proofs.YtokfgajfkopelaaDoorW.PrintWords Go.Proofs.YtokfgajfkopelaaDoorW.PrintLast Go.Proofs.YtokfgajfkopelaaDoorW.PrintMore
attribute [local go_sem] max2_int min2_int max_two min_two max_three min_three max_four min_four
set_option linter.unusedVariables false
set_option linter.unusedSimpArgs false
def addr_Parse.l0 : Nat → Bool → List ByteArray → List ByteArray → Int → Int → Int → Int → Option (Int × Int × Bool)
 | 0, _, _, _, _, _, _, _ => none
 | k + 1, x6, x7, x23, x24, x25, x116000, x116001 => if x25 < x24 then (if 0 ≤ x25 then (if x25 < (x23.length : Int) then ((addr_number.f k (rdOf ByteArray.empty x23 x25) 255).bind fun t117 => (if x6 = true then (addr_Parse.l0 k (decide (t117 ≥ 0)) x7 x23 x24 (wrap64 (x25 + 1)) (Go.bits .or .u32 ((x116000 * 256) % 4294967296) ((Go.bits .and .i64 t117 255) % 4294967296)) x116001) else (addr_Parse.l0 k false x7 x23 x24 (wrap64 (x25 + 1)) (Go.bits .or .u32 ((x116000 * 256) % 4294967296) ((Go.bits .and .i64 t117 255) % 4294967296)) x116001))) else (none)) else (none)) else (if x6 = true then (if (x7.length : Int) = 4 then ((addr_Right.f x116000 x116001).bind fun t118 => (if t118 = true then (some (x116000, x116001, true)) else (some (0, 0, false)))) else (some (0, 0, false))) else (some (0, 0, false)))
def addr_Parse.f (k : Nat) (a0 : ByteArray) : Option (Int × Int × Bool) := (strings_Cut.f a0 (⟨#[47]⟩ : ByteArray)).bind fun bt108 => ((strings_Split.f bt108.1 (⟨#[46]⟩ : ByteArray)).bind fun t111 => ((addr_number.f k bt108.2.1 32).bind fun t114 => (addr_Parse.l0 k bt108.2.2 t111 t111 (t111.length : Int) 0 0 t114)))
set_option maxHeartbeats 8000000 in
set_option maxRecDepth 100000 in
theorem addr_Parse.calls (k : Nat) (a0 : ByteArray) (r1 : Int) (r2 : Int) (r3 : Bool) (w : World) (henv : Env w) (h : addr_Parse.f k a0 = some (r1, r2, r3)) :
 Calls Tryd.prog 12 #[.string a0] w fun e w' => e = .returned (.tuple #[.agg #[.int .u32 r1, .int .i64 r2], .bool r3]) ∧ Below w.heap.size w w' := by
 have hu24 := Tryd.underlying24
 have HB := Aside0.mk (Below.refl w.heap.size w)
 have HENV := Aside0.mk henv
 clear henv
 have H : ((strings_Cut.f a0 (⟨#[47]⟩ : ByteArray)).bind fun bt108 => ((strings_Split.f bt108.1 (⟨#[46]⟩ : ByteArray)).bind fun t111 => ((addr_number.f k bt108.2.1 32).bind fun t114 => (addr_Parse.l0 k bt108.2.2 t111 t111 (t111.length : Int) 0 0 t114)))) = some (r1, r2, r3) := h
 clear h
 replace H := Option.bind_eq_some_iff.mp H
 obtain ⟨⟨t108, t109, t110⟩, A20, H⟩ := H
 replace H : ((strings_Split.f t108 (⟨#[46]⟩ : ByteArray)).bind fun t111 => ((addr_number.f k t109 32).bind fun t114 => (addr_Parse.l0 k t110 t111 t111 (t111.length : Int) 0 0 t114))) = some (r1, r2, r3) := H
 have A2 := Aside0.mk A20
 clear A20
 replace H := Option.bind_eq_some_iff.mp H
 obtain ⟨t111, A30, H⟩ := H
 replace H : ((addr_number.f k t109 32).bind fun t114 => (addr_Parse.l0 k t110 t111 t111 (t111.length : Int) 0 0 t114)) = some (r1, r2, r3) := H
 have A3 := Aside0.mk A30
 clear A30
 replace H := Option.bind_eq_some_iff.mp H
 obtain ⟨t114, A40, H⟩ := H
 replace H : (addr_Parse.l0 k t110 t111 t111 (t111.length : Int) 0 0 t114) = some (r1, r2, r3) := H
 have A4 := Aside0.mk A40
 clear A40
 have H' := Aside0.mk H
 clear H
 go_enter Tryd.func12, Tryd.ntmps12
 go_wp2_with (first | ((with_reducible refine gate_dst (N := 2) rfl ?_); (try (refine gate_guard (by rfl) ?_; dsimp only)); refine box_event ?hg (N := 2) ?hd (cs := #[.int .u32 0, .int .i64 0]) (t := 24) ?hr ?_; (case hd => rfl); (case hg => rfl); (case hr => first | (go_simp; done) | (go_simp; rfl)); intro gb107 hg w5 hbox hb; have n0_ := Aside0.mk (below_step (by repeat (first | (with_reducible first | exact HB.out | apply below_alloc | apply pw_below_drewN | apply below_drew1) | exact HB.out)) hb); have n1_ := Aside0.mk (hbox); have n2_ := Aside0.mk ((by rw [hg]; exact (below_size (by repeat (first | (with_reducible first | exact HB.out | apply below_alloc | apply pw_below_drewN | apply below_drew1) | exact HB.out))) : w.heap.size ≤ gb107)); have n3_ := Aside0.mk ((by rw [hg]; exact (below_size (by repeat (first | (with_reducible first | exact HB.out | apply below_alloc | apply pw_below_drewN | apply below_drew1) | exact HB.out))) : w.heap.size ≤ gb107)); clear HB; have HB := n0_; have BK107 := n1_; have GW107 := n2_; have GE107 := n3_; clear n0_ n1_ n2_ n3_; clear hb hbox hg) | ((with_reducible refine gate_callee (f := 30) rfl ?_); refine goesL_ (some 14) rfl rfl Tryd.func30 (by kernel_rfl) rfl #[.string a0, .string (⟨#[47]⟩ : ByteArray)] rfl (by (try simp only [List.map_toArray, List.map_cons, List.map_nil]); first | done | rfl | (simp only [List.length_drop, List.length_take]; rfl)) ?_; (with_reducible refine (strings_Cut.calls a0 (⟨#[47]⟩ : ByteArray) t108 t109 t110 _ (HENV.out.below (by repeat (first | (with_reducible first | exact HB.out | apply below_alloc | apply pw_below_drewN | apply below_drew1 | refine below_set ?_ GE107.out) | exact HB.out))) A2.out).mono ?_); rintro e w6 ⟨rfl, hb⟩; refine ⟨_, rfl, ?_⟩; have n0_ := Aside0.mk (blk_below (g := gb107) (o := .cells #[.int .u32 0, .int .i64 0] 24 (0, 0)) (by (with_reducible repeat (first | refine blk_drewN ?_ _ | refine blk_drew ?_ | refine blk_alloc ?_ _)); exact BK107.out) hb); have n1_ := Aside0.mk (below_step (by repeat (first | (with_reducible first | exact HB.out | apply below_alloc | apply pw_below_drewN | apply below_drew1 | refine below_set ?_ GE107.out) | exact HB.out)) hb); clear BK107; clear HB; have BK107 := n0_; have HB := n1_; clear n0_ n1_; (try clear hb); (try clear hb2); (try clear hk); (try clear hi)) | ((with_reducible refine gate_callee (f := 31) rfl ?_); refine goesL_ (some 19) rfl rfl Tryd.func31 (by kernel_rfl) rfl #[.string t108, .string (⟨#[46]⟩ : ByteArray)] rfl (by (try simp only [List.map_toArray, List.map_cons, List.map_nil]); first | done | rfl | (simp only [List.length_drop, List.length_take]; rfl)) ?_; (with_reducible refine (strings_Split.calls t108 (⟨#[46]⟩ : ByteArray) t111 _ (HENV.out.below (by repeat (first | (with_reducible first | exact HB.out | apply below_alloc | apply pw_below_drewN | apply below_drew1 | refine below_set ?_ GE107.out) | exact HB.out))) A3.out).mono ?_); rintro e w7 ⟨v112, rfl, ho0, hb⟩; refine ⟨_, rfl, ?_⟩; have n0_ := Aside0.mk (Kd.R_lower ho0 (below_size (by repeat (first | (with_reducible first | exact HB.out | apply below_alloc | apply pw_below_drewN | apply below_drew1 | refine below_set ?_ GE107.out) | exact HB.out)))); have n1_ := Aside0.mk (blk_below (g := gb107) (o := .cells #[.int .u32 0, .int .i64 0] 24 (0, 0)) (by (with_reducible repeat (first | refine blk_drewN ?_ _ | refine blk_drew ?_ | refine blk_alloc ?_ _)); exact BK107.out) hb); have n2_ := Aside0.mk (below_step (by repeat (first | (with_reducible first | exact HB.out | apply below_alloc | apply pw_below_drewN | apply below_drew1 | refine below_set ?_ GE107.out) | exact HB.out)) hb); clear BK107; clear HB; have HO113 := n0_; have BK107 := n1_; have HB := n2_; clear n0_ n1_ n2_; (try clear hb); (try clear hb2); (try clear hk); (try clear hi); (try clear ho0)) | ((with_reducible refine gate_callee (f := 32) rfl ?_); refine goesL_ (some 21) rfl rfl Tryd.func32 (by kernel_rfl) rfl #[.string t109, .int .i64 32] rfl (by (try simp only [List.map_toArray, List.map_cons, List.map_nil]); first | done | rfl | (simp only [List.length_drop, List.length_take]; rfl)) ?_; (with_reducible refine (addr_number.calls k t109 32 t114 _ A4.out).mono ?_); rintro e w' ⟨rfl, ⟨nd, rfl⟩⟩; refine ⟨_, rfl, ?_⟩; (try (rw [drewN_self w7]; generalize hq_ : World.drewN w7 _ = w7; have n0_ : Aside0 (Kd.R Kd.string 9 w7 w.heap.size (fun _ => True) v112 t111) := ⟨by rw [← hq_]; exact (by (with_reducible repeat (first | apply Kd.R_alloc | apply Kd.R_drewN | apply Kd.R_drew)); exact HO113.out)⟩; have n1_ : Aside0 (w7.heap[gb107]? = some (.cells #[.int .u32 0, .int .i64 0] 24 (0, 0))) := ⟨by rw [← hq_]; exact (by (with_reducible repeat (first | refine blk_drewN ?_ _ | refine blk_drew ?_ | refine blk_alloc ?_ _)); exact BK107.out)⟩; have n2_ : Aside0 (Below w.heap.size w w7) := ⟨by rw [← hq_]; exact (by repeat (first | (with_reducible first | exact HB.out | apply below_alloc | apply pw_below_drewN | apply below_drew1 | refine below_set ?_ GE107.out) | exact HB.out))⟩; clear HO113 BK107 HB hq_; have HO113 := n0_; have BK107 := n1_; have HB := n2_; clear n0_ n1_ n2_))) | ((with_reducible refine gate_dst (N := 8) rfl ?_); (try (refine gate_guard (by rfl) ?_; dsimp only)); refine box_event ?hg (N := 8) ?hd (cs := #[.int .u32 0, .int .i64 0]) (t := 24) ?hr ?_; (case hd => rfl); (case hg => rfl); (case hr => first | (go_simp; done) | (go_simp; rfl)); intro gb115 hg w8 hbox hb; have n0_ := Aside0.mk (Kd.R_below (by (with_reducible repeat (first | apply Kd.R_alloc | apply Kd.R_drewN | apply Kd.R_drew)); exact HO113.out) hb); have n1_ := Aside0.mk (blk_below (g := gb107) (o := .cells #[.int .u32 0, .int .i64 0] 24 (0, 0)) (by (with_reducible repeat (first | refine blk_drewN ?_ _ | refine blk_drew ?_ | refine blk_alloc ?_ _)); exact BK107.out) hb); have n2_ := Aside0.mk (below_step (by repeat (first | (with_reducible first | exact HB.out | apply below_alloc | apply pw_below_drewN | apply below_drew1 | refine below_set ?_ GE107.out) | exact HB.out)) hb); have n3_ := Aside0.mk (hbox); have n4_ := Aside0.mk ((by rw [hg]; exact (below_size (by repeat (first | (with_reducible first | exact HB.out | apply below_alloc | apply pw_below_drewN | apply below_drew1 | refine below_set ?_ GE107.out) | exact HB.out))) : w.heap.size ≤ gb115)); have n5_ := Aside0.mk ((by rw [hg]; exact (below_size (by repeat (first | (with_reducible first | exact HB.out | apply below_alloc | apply pw_below_drewN | apply below_drew1 | refine below_set ?_ GE107.out) | exact HB.out))) : w.heap.size ≤ gb115)); have n6_ := Aside0.mk ((by rw [hg]; exact Nat.ne_of_lt (blk_lt (g := gb107) (o := .cells #[.int .u32 0, .int .i64 0] 24 (0, 0)) (by (with_reducible repeat (first | refine blk_drewN ?_ _ | refine blk_drew ?_ | refine blk_alloc ?_ _)); exact BK107.out)) : gb107 ≠ gb115)); have n7_ := Aside0.mk ((by rw [hg]; exact Nat.ne_of_gt (blk_lt (g := gb107) (o := .cells #[.int .u32 0, .int .i64 0] 24 (0, 0)) (by (with_reducible repeat (first | refine blk_drewN ?_ _ | refine blk_drew ?_ | refine blk_alloc ?_ _)); exact BK107.out)) : gb115 ≠ gb107)); clear HO113; clear BK107; clear HB; have HO113 := n0_; have BK107 := n1_; have HB := n2_; have BK115 := n3_; have GW115 := n4_; have GE115 := n5_; have NB107_115 := n6_; have NB115_107 := n7_; clear n0_ n1_ n2_ n3_ n4_ n5_ n6_ n7_; clear hb hbox hg; have hnb9 := NB115_107.out; have hnc9 := NB107_115.out; have hcz10_0 : w8.cell? ⟨gb115, 0, none⟩ = some (.int .u32 0) := (blk_cell BK115.out 0).trans rfl; have hcz10_1 : w8.cell? ⟨gb115, 1, none⟩ = some (.int .i64 0) := (blk_cell BK115.out 1).trans rfl; have hfz10_0 := blk_frozen BK115.out 0; have hfz10_1 := blk_frozen BK115.out 1; obtain ⟨Ao11, co11, eo11⟩ := Kd.R_slice HO113.out; subst eo11))
 go_loopg [6, 25] k (fun kq v6 v25 w' => ∃ (x6_1 : Bool) (x25_1 : Int) (x116000_1 : Int), v6 = .bool x6_1 ∧ v25 = .int .i64 x25_1 ∧ Aside0 (addr_Parse.l0 kq x6_1 t111 t111 (t111.length : Int) x25_1 x116000_1 t114 = some (r1, r2, r3)) ∧ Aside0 (kq ≤ k) ∧ Aside0 (Kd.R Kd.string 9 w' w.heap.size (fun _ => True) (.slice Ao11 t111.length co11) t111) ∧ Aside0 (Kd.R Kd.string 9 w' w.heap.size (fun _ => True) (.slice Ao11 t111.length co11) t111) ∧ Aside0 (w'.heap[gb107]? = some (.cells #[.int .u32 0, .int .i64 0] 24 (0, 0))) ∧ Aside0 (w'.heap[gb115]? = some (.cells #[.int .u32 x116000_1, .int .i64 t114] 24 (0, 0))) ∧ Aside0 (Below w.heap.size w w'))
 case atStart => exact ⟨(t110), (0), (0), (by first | rfl | (simp; done) | (simp [*]; done)), (by first | rfl | (simp; done) | (simp [*]; done)), H', ⟨Nat.le_refl _⟩, ⟨by (with_reducible repeat (first | apply Kd.R_alloc | apply Kd.R_drewN | apply Kd.R_drew)); exact Kd.R_mono (Kd.R_far (p := ⟨gb115, 1, none⟩) (Kd.R_far (p := ⟨gb115, 0, none⟩) (Kd.R_types HO113.out BK115.out (by decide)) (fun _ hk => hk.2) (.int .u32 0)) (fun _ hk => hk.2) (.int .i64 t114)) (fun _ hk => trivial)⟩, ⟨by (with_reducible repeat (first | apply Kd.R_alloc | apply Kd.R_drewN | apply Kd.R_drew)); exact Kd.R_mono (Kd.R_far (p := ⟨gb115, 1, none⟩) (Kd.R_far (p := ⟨gb115, 0, none⟩) (Kd.R_types HO113.out BK115.out (by decide)) (fun _ hk => hk.2) (.int .u32 0)) (fun _ hk => hk.2) (.int .i64 t114)) (fun _ hk => trivial)⟩, ⟨by (with_reducible repeat (first | refine blk_drewN ?_ _ | refine blk_drew ?_ | refine blk_alloc ?_ _)); refine blk_far ?_ NB107_115.out _; (with_reducible repeat (first | refine blk_drewN ?_ _ | refine blk_drew ?_ | refine blk_alloc ?_ _)); refine blk_far ?_ NB107_115.out _; (with_reducible repeat (first | refine blk_drewN ?_ _ | refine blk_drew ?_ | refine blk_alloc ?_ _)); exact BK107.out⟩, ⟨by (with_reducible repeat (first | refine blk_drewN ?_ _ | refine blk_drew ?_ | refine blk_alloc ?_ _)); refine blk_put (cs := #[.int .u32 0, .int .i64 0]) ?_ 1 _ rfl; (with_reducible repeat (first | refine blk_drewN ?_ _ | refine blk_drew ?_ | refine blk_alloc ?_ _)); refine blk_put (cs := #[.int .u32 0, .int .i64 0]) ?_ 0 _ rfl; (with_reducible repeat (first | refine blk_drewN ?_ _ | refine blk_drew ?_ | refine blk_alloc ?_ _)); exact BK115.out⟩, ⟨by repeat (first | (with_reducible first | exact HB.out | apply below_alloc | apply pw_below_drewN | apply below_drew1 | refine below_set ?_ GE107.out | refine below_set ?_ GE115.out) | exact HB.out)⟩⟩
 case round =>
  clear H'
  try clear c1
  try clear p2
  try clear c3
  try clear c9
  try clear hcz10_0
  try clear hcz10_1
  try clear hfz10_0
  try clear hfz10_1
  obtain ⟨x6_1, x25_1, x116000_1, rfl, rfl, HA, HK1, HO_7, HO_23, BK107, BK115, HB⟩ := hrel
  cases gk with
  | zero => exact absurd HA.out (by simp [addr_Parse.l0])
  | succ k1 =>
   have H := HA.out
   clear HA
   simp only [addr_Parse.l0] at H
   by_cases c12 : x25_1 < (t111.length : Int)
   ·rw [if_pos c12] at H
    have c12b0 : decide (x25_1 < (t111.length : Int)) = true := decide_eq_true c12
    clear c12
    by_cases c13 : 0 ≤ x25_1
    ·rw [if_pos c13] at H
     have c13b0 : decide (0 ≤ x25_1) = true := decide_eq_true c13
     clear c13
     by_cases c14 : x25_1 < (t111.length : Int)
     ·rw [if_pos c14] at H
      have c14b0 : decide (x25_1 < (t111.length : Int)) = true := decide_eq_true c14
      clear c14
      replace H := Option.bind_eq_some_iff.mp H
      obtain ⟨t117, A150, H⟩ := H
      replace H : (if x6_1 = true then (addr_Parse.l0 k1 (decide (t117 ≥ 0)) t111 t111 (t111.length : Int) (wrap64 (x25_1 + 1)) (Go.bits .or .u32 ((x116000_1 * 256) % 4294967296) ((Go.bits .and .i64 t117 255) % 4294967296)) t114) else (addr_Parse.l0 k1 false t111 t111 (t111.length : Int) (wrap64 (x25_1 + 1)) (Go.bits .or .u32 ((x116000_1 * 256) % 4294967296) ((Go.bits .and .i64 t117 255) % 4294967296)) t114)) = some (r1, r2, r3) := H
      have A15 := Aside0.mk A150
      clear A150
      by_cases c16 : x6_1 = true
      ·subst c16
       have H1 : (addr_Parse.l0 k1 (decide (t117 ≥ 0)) t111 t111 (t111.length : Int) (wrap64 (x25_1 + 1)) (Go.bits .or .u32 ((x116000_1 * 256) % 4294967296) ((Go.bits .and .i64 t117 255) % 4294967296)) t114) = some (r1, r2, r3) := by rw [if_pos rfl] at H; exact H
       clear H
       have H := H1
       clear H1
       have H' := Aside0.mk H
       clear H
       have p116 : 0 ≤ (x25_1 : Int) := of_decide_eq_true (by first | (with_reducible assumption) | assumption)
       have q116 : x25_1 < (t111.length : Int) := of_decide_eq_true (by first | (with_reducible assumption) | assumption)
       obtain ⟨ad116, e116, hx116_0⟩ := Kd.at_string (Kd.R_reads' HO_23.out).2.2 x25_1 p116 q116
       cases e116
       replace p116 := eq_true p116
       replace q116 := eq_true q116
       go_wp2_with (first | ((with_reducible refine gate_callee (f := 32) rfl ?_); refine goesL_ (some 30) rfl rfl Tryd.func32 (by kernel_rfl) rfl #[.string (rdOf ByteArray.empty t111 x25_1), .int .i64 255] rfl (by (try simp only [List.map_toArray, List.map_cons, List.map_nil]); first | done | rfl | (simp only [List.length_drop, List.length_take]; rfl)) ?_; (with_reducible refine (addr_number.calls k1 (rdOf ByteArray.empty t111 x25_1) 255 t117 _ A15.out).mono ?_); rintro e w' ⟨rfl, ⟨nd, rfl⟩⟩; refine ⟨_, rfl, ?_⟩; (try (rw [drewN_self wr]; generalize hq_ : World.drewN wr _ = wr; have n0_ : Aside0 (Kd.R Kd.string 9 wr w.heap.size (fun _ => True) (.slice (some ad116) t111.length co11) t111) := ⟨by rw [← hq_]; exact (by (with_reducible repeat (first | apply Kd.R_alloc | apply Kd.R_drewN | apply Kd.R_drew)); exact HO_23.out)⟩; have n1_ : Aside0 (Kd.R Kd.string 9 wr w.heap.size (fun _ => True) (.slice (some ad116) t111.length co11) t111) := ⟨by rw [← hq_]; exact (by (with_reducible repeat (first | apply Kd.R_alloc | apply Kd.R_drewN | apply Kd.R_drew)); exact HO_7.out)⟩; have n2_ : Aside0 (wr.heap[gb107]? = some (.cells #[.int .u32 0, .int .i64 0] 24 (0, 0))) := ⟨by rw [← hq_]; exact (by (with_reducible repeat (first | refine blk_drewN ?_ _ | refine blk_drew ?_ | refine blk_alloc ?_ _)); exact BK107.out)⟩; have n3_ : Aside0 (wr.heap[gb115]? = some (.cells #[.int .u32 x116000_1, .int .i64 t114] 24 (0, 0))) := ⟨by rw [← hq_]; exact (by (with_reducible repeat (first | refine blk_drewN ?_ _ | refine blk_drew ?_ | refine blk_alloc ?_ _)); exact BK115.out)⟩; have n4_ : Aside0 (Below w.heap.size w wr) := ⟨by rw [← hq_]; exact (by repeat (first | (with_reducible first | exact HB.out | apply below_alloc | apply pw_below_drewN | apply below_drew1 | refine below_set ?_ GE107.out | refine below_set ?_ GE115.out) | exact HB.out))⟩; clear HO_23 HO_7 BK107 BK115 HB hq_; have HO_23 := n0_; have HO_7 := n1_; have BK107 := n2_; have BK115 := n3_; have HB := n4_; clear n0_ n1_ n2_ n3_ n4_)); have hnb17 := NB115_107.out; have hnc17 := NB107_115.out; have hcz18_0 : wr.cell? ⟨gb115, 0, none⟩ = some (.int .u32 x116000_1) := (blk_cell BK115.out 0).trans rfl; have hcz18_1 : wr.cell? ⟨gb115, 1, none⟩ = some (.int .i64 t114) := (blk_cell BK115.out 1).trans rfl; have hfz18_0 := blk_frozen BK115.out 0; have hfz18_1 := blk_frozen BK115.out 1))
       go_roundg k1
       case measure => have := HK1.out; omega
       case rel => exact ⟨(decide (t117 ≥ 0)), (wrap64 (x25_1 + 1)), (Go.bits .or .u32 ((x116000_1 * 256) % 4294967296) ((Go.bits .and .i64 t117 255) % 4294967296)), (by first | rfl | (simp; done) | (simp [*]; done)), (by first | rfl | (simp; done) | (simp [*]; done)), H', ⟨by have := HK1.out; omega⟩, ⟨by (with_reducible repeat (first | apply Kd.R_alloc | apply Kd.R_drewN | apply Kd.R_drew)); exact Kd.R_mono (Kd.R_far (p := ⟨gb115, 0, none⟩) (Kd.R_types HO_7.out BK115.out (by decide)) (fun _ hk => hk.2) (.int .u32 (Go.bits .or .u32 ((x116000_1 * 256) % 4294967296) ((Go.bits .and .i64 t117 255) % 4294967296)))) (fun _ hk => trivial)⟩, ⟨by (with_reducible repeat (first | apply Kd.R_alloc | apply Kd.R_drewN | apply Kd.R_drew)); exact Kd.R_mono (Kd.R_far (p := ⟨gb115, 0, none⟩) (Kd.R_types HO_23.out BK115.out (by decide)) (fun _ hk => hk.2) (.int .u32 (Go.bits .or .u32 ((x116000_1 * 256) % 4294967296) ((Go.bits .and .i64 t117 255) % 4294967296)))) (fun _ hk => trivial)⟩, ⟨by (with_reducible repeat (first | refine blk_drewN ?_ _ | refine blk_drew ?_ | refine blk_alloc ?_ _)); refine blk_far ?_ NB107_115.out _; (with_reducible repeat (first | refine blk_drewN ?_ _ | refine blk_drew ?_ | refine blk_alloc ?_ _)); exact BK107.out⟩, ⟨by (with_reducible repeat (first | refine blk_drewN ?_ _ | refine blk_drew ?_ | refine blk_alloc ?_ _)); refine blk_put (cs := #[.int .u32 x116000_1, .int .i64 t114]) ?_ 0 _ rfl; (with_reducible repeat (first | refine blk_drewN ?_ _ | refine blk_drew ?_ | refine blk_alloc ?_ _)); exact BK115.out⟩, ⟨by repeat (first | (with_reducible first | exact HB.out | apply below_alloc | apply pw_below_drewN | apply below_drew1 | refine below_set ?_ GE107.out | refine below_set ?_ GE115.out) | exact HB.out)⟩⟩
      ·replace c16 := Bool.eq_false_iff.mpr c16
       subst c16
       have H1 : (addr_Parse.l0 k1 false t111 t111 (t111.length : Int) (wrap64 (x25_1 + 1)) (Go.bits .or .u32 ((x116000_1 * 256) % 4294967296) ((Go.bits .and .i64 t117 255) % 4294967296)) t114) = some (r1, r2, r3) := by rw [if_neg (show ¬ (false = true) by decide)] at H; exact H
       clear H
       have H := H1
       clear H1
       have H' := Aside0.mk H
       clear H
       have p116 : 0 ≤ (x25_1 : Int) := of_decide_eq_true (by first | (with_reducible assumption) | assumption)
       have q116 : x25_1 < (t111.length : Int) := of_decide_eq_true (by first | (with_reducible assumption) | assumption)
       obtain ⟨ad116, e116, hx116_0⟩ := Kd.at_string (Kd.R_reads' HO_23.out).2.2 x25_1 p116 q116
       cases e116
       replace p116 := eq_true p116
       replace q116 := eq_true q116
       go_wp2_with (first | ((with_reducible refine gate_callee (f := 32) rfl ?_); refine goesL_ (some 30) rfl rfl Tryd.func32 (by kernel_rfl) rfl #[.string (rdOf ByteArray.empty t111 x25_1), .int .i64 255] rfl (by (try simp only [List.map_toArray, List.map_cons, List.map_nil]); first | done | rfl | (simp only [List.length_drop, List.length_take]; rfl)) ?_; (with_reducible refine (addr_number.calls k1 (rdOf ByteArray.empty t111 x25_1) 255 t117 _ A15.out).mono ?_); rintro e w' ⟨rfl, ⟨nd, rfl⟩⟩; refine ⟨_, rfl, ?_⟩; (try (rw [drewN_self wr]; generalize hq_ : World.drewN wr _ = wr; have n0_ : Aside0 (Kd.R Kd.string 9 wr w.heap.size (fun _ => True) (.slice (some ad116) t111.length co11) t111) := ⟨by rw [← hq_]; exact (by (with_reducible repeat (first | apply Kd.R_alloc | apply Kd.R_drewN | apply Kd.R_drew)); exact HO_23.out)⟩; have n1_ : Aside0 (Kd.R Kd.string 9 wr w.heap.size (fun _ => True) (.slice (some ad116) t111.length co11) t111) := ⟨by rw [← hq_]; exact (by (with_reducible repeat (first | apply Kd.R_alloc | apply Kd.R_drewN | apply Kd.R_drew)); exact HO_7.out)⟩; have n2_ : Aside0 (wr.heap[gb107]? = some (.cells #[.int .u32 0, .int .i64 0] 24 (0, 0))) := ⟨by rw [← hq_]; exact (by (with_reducible repeat (first | refine blk_drewN ?_ _ | refine blk_drew ?_ | refine blk_alloc ?_ _)); exact BK107.out)⟩; have n3_ : Aside0 (wr.heap[gb115]? = some (.cells #[.int .u32 x116000_1, .int .i64 t114] 24 (0, 0))) := ⟨by rw [← hq_]; exact (by (with_reducible repeat (first | refine blk_drewN ?_ _ | refine blk_drew ?_ | refine blk_alloc ?_ _)); exact BK115.out)⟩; have n4_ : Aside0 (Below w.heap.size w wr) := ⟨by rw [← hq_]; exact (by repeat (first | (with_reducible first | exact HB.out | apply below_alloc | apply pw_below_drewN | apply below_drew1 | refine below_set ?_ GE107.out | refine below_set ?_ GE115.out) | exact HB.out))⟩; clear HO_23 HO_7 BK107 BK115 HB hq_; have HO_23 := n0_; have HO_7 := n1_; have BK107 := n2_; have BK115 := n3_; have HB := n4_; clear n0_ n1_ n2_ n3_ n4_)); have hnb19 := NB115_107.out; have hnc19 := NB107_115.out; have hcz20_0 : wr.cell? ⟨gb115, 0, none⟩ = some (.int .u32 x116000_1) := (blk_cell BK115.out 0).trans rfl; have hcz20_1 : wr.cell? ⟨gb115, 1, none⟩ = some (.int .i64 t114) := (blk_cell BK115.out 1).trans rfl; have hfz20_0 := blk_frozen BK115.out 0; have hfz20_1 := blk_frozen BK115.out 1))
       go_roundg k1
       case measure => have := HK1.out; omega
       case rel => exact ⟨(false), (wrap64 (x25_1 + 1)), (Go.bits .or .u32 ((x116000_1 * 256) % 4294967296) ((Go.bits .and .i64 t117 255) % 4294967296)), (by first | rfl | (simp; done) | (simp [*]; done)), (by first | rfl | (simp; done) | (simp [*]; done)), H', ⟨by have := HK1.out; omega⟩, ⟨by (with_reducible repeat (first | apply Kd.R_alloc | apply Kd.R_drewN | apply Kd.R_drew)); exact Kd.R_mono (Kd.R_far (p := ⟨gb115, 0, none⟩) (Kd.R_types HO_7.out BK115.out (by decide)) (fun _ hk => hk.2) (.int .u32 (Go.bits .or .u32 ((x116000_1 * 256) % 4294967296) ((Go.bits .and .i64 t117 255) % 4294967296)))) (fun _ hk => trivial)⟩, ⟨by (with_reducible repeat (first | apply Kd.R_alloc | apply Kd.R_drewN | apply Kd.R_drew)); exact Kd.R_mono (Kd.R_far (p := ⟨gb115, 0, none⟩) (Kd.R_types HO_23.out BK115.out (by decide)) (fun _ hk => hk.2) (.int .u32 (Go.bits .or .u32 ((x116000_1 * 256) % 4294967296) ((Go.bits .and .i64 t117 255) % 4294967296)))) (fun _ hk => trivial)⟩, ⟨by (with_reducible repeat (first | refine blk_drewN ?_ _ | refine blk_drew ?_ | refine blk_alloc ?_ _)); refine blk_far ?_ NB107_115.out _; (with_reducible repeat (first | refine blk_drewN ?_ _ | refine blk_drew ?_ | refine blk_alloc ?_ _)); exact BK107.out⟩, ⟨by (with_reducible repeat (first | refine blk_drewN ?_ _ | refine blk_drew ?_ | refine blk_alloc ?_ _)); refine blk_put (cs := #[.int .u32 x116000_1, .int .i64 t114]) ?_ 0 _ rfl; (with_reducible repeat (first | refine blk_drewN ?_ _ | refine blk_drew ?_ | refine blk_alloc ?_ _)); exact BK115.out⟩, ⟨by repeat (first | (with_reducible first | exact HB.out | apply below_alloc | apply pw_below_drewN | apply below_drew1 | refine below_set ?_ GE107.out | refine below_set ?_ GE115.out) | exact HB.out)⟩⟩
     ·rw [if_neg c14] at H
      exact absurd H (by simp)
    ·rw [if_neg c13] at H
     exact absurd H (by simp)
   ·rw [if_neg c12] at H
    have c12b0 : decide (x25_1 < (t111.length : Int)) = false := decide_eq_false c12
    clear c12
    by_cases c21 : x6_1 = true
    ·subst c21
     have H1 : (if (t111.length : Int) = 4 then ((addr_Right.f x116000_1 t114).bind fun t118 => (if t118 = true then (some (x116000_1, t114, true)) else (some (0, 0, false)))) else (some (0, 0, false))) = some (r1, r2, r3) := by rw [if_pos rfl] at H; exact H
     clear H
     have H := H1
     clear H1
     by_cases c22 : (t111.length : Int) = 4
     ·rw [if_pos c22] at H
      have c22b0 : ((t111.length : Int) == 4) = true := beq_iff_eq.mpr c22
      have c22b1 : ((t111.length : Int) != 4) = false := bne_eq_false_iff_eq.mpr c22
      clear c22
      replace H := Option.bind_eq_some_iff.mp H
      obtain ⟨t118, A230, H⟩ := H
      replace H : (if t118 = true then (some (x116000_1, t114, true)) else (some (0, 0, false))) = some (r1, r2, r3) := H
      have A23 := Aside0.mk A230
      clear A230
      by_cases c24 : t118 = true
      ·subst c24
       have H1 : (some (x116000_1, t114, true)) = some (r1, r2, r3) := by rw [if_pos rfl] at H; exact H
       clear H
       have H := H1
       clear H1
       simp only [Option.some.injEq, Prod.mk.injEq] at H
       obtain ⟨rfl, rfl, rfl⟩ := H
       have hnb25 := NB115_107.out
       have hnc25 := NB107_115.out
       have hcz26_0 : wr.cell? ⟨gb115, 0, none⟩ = some (.int .u32 x116000_1) := (blk_cell BK115.out 0).trans rfl
       have hcz26_1 : wr.cell? ⟨gb115, 1, none⟩ = some (.int .i64 t114) := (blk_cell BK115.out 1).trans rfl
       have hfz26_0 := blk_frozen BK115.out 0
       have hfz26_1 := blk_frozen BK115.out 1
       go_wp2_with (first | (go_at_call 14; (with_reducible refine (addr_Right.calls x116000_1 t114 true _ A23.out).mono ?_); rintro e w27 ⟨rfl, hb⟩; have n0_ := Aside0.mk (Kd.R_below (by (with_reducible repeat (first | apply Kd.R_alloc | apply Kd.R_drewN | apply Kd.R_drew)); exact HO_7.out) hb); have n1_ := Aside0.mk (Kd.R_below (by (with_reducible repeat (first | apply Kd.R_alloc | apply Kd.R_drewN | apply Kd.R_drew)); exact HO_23.out) hb); have n2_ := Aside0.mk (blk_below (g := gb107) (o := .cells #[.int .u32 0, .int .i64 0] 24 (0, 0)) (by (with_reducible repeat (first | refine blk_drewN ?_ _ | refine blk_drew ?_ | refine blk_alloc ?_ _)); exact BK107.out) hb); have n3_ := Aside0.mk (blk_below (g := gb115) (o := .cells #[.int .u32 x116000_1, .int .i64 t114] 24 (0, 0)) (by (with_reducible repeat (first | refine blk_drewN ?_ _ | refine blk_drew ?_ | refine blk_alloc ?_ _)); exact BK115.out) hb); have n4_ := Aside0.mk (below_step (by repeat (first | (with_reducible first | exact HB.out | apply below_alloc | apply pw_below_drewN | apply below_drew1 | refine below_set ?_ GE107.out | refine below_set ?_ GE115.out) | exact HB.out)) hb); clear HO_7; clear HO_23; clear BK107; clear BK115; clear HB; have HO_7 := n0_; have HO_23 := n1_; have BK107 := n2_; have BK115 := n3_; have HB := n4_; clear n0_ n1_ n2_ n3_ n4_; (try clear hb); (try clear hb2); (try clear hk); (try clear hi); have hcz28_0 : w27.cell? ⟨gb115, 0, none⟩ = some (.int .u32 x116000_1) := (blk_cell BK115.out 0).trans rfl; have hcz28_1 : w27.cell? ⟨gb115, 1, none⟩ = some (.int .i64 t114) := (blk_cell BK115.out 1).trans rfl; have hfz28_0 := blk_frozen BK115.out 0; have hfz28_1 := blk_frozen BK115.out 1; have hcz29_0 : w27.cell? ⟨gb107, 0, none⟩ = some (.int .u32 0) := (blk_cell BK107.out 0).trans rfl; have hcz29_1 : w27.cell? ⟨gb107, 1, none⟩ = some (.int .i64 0) := (blk_cell BK107.out 1).trans rfl; have hfz29_0 := blk_frozen BK107.out 0; have hfz29_1 := blk_frozen BK107.out 1))
       refine bodyPost_ret (results_ct rfl _ _ gb107 24 #[.int .u32 x116000_1, .int .i64 t114] (0, 0) _ rfl (by (with_reducible repeat (first | refine blk_drewN ?_ _ | refine blk_drew ?_ | refine blk_alloc ?_ _)); refine blk_put (cs := #[.int .u32 x116000_1, .int .i64 0]) ?_ 1 _ rfl; (with_reducible repeat (first | refine blk_drewN ?_ _ | refine blk_drew ?_ | refine blk_alloc ?_ _)); refine blk_put (cs := #[.int .u32 0, .int .i64 0]) ?_ 0 _ rfl; (with_reducible repeat (first | refine blk_drewN ?_ _ | refine blk_drew ?_ | refine blk_alloc ?_ _)); exact BK107.out) Tryd.underlying24 rfl (by kernel_rfl)) rfl ?_
       exact ⟨by first | rfl | (simp [errW_none, errW_some] <;> rfl) | (simp [*, errW_none, errW_some] <;> rfl), by repeat (first | (with_reducible first | exact HB.out | apply below_alloc | apply pw_below_drewN | apply below_drew1 | refine below_set ?_ GE107.out | refine below_set ?_ GE115.out) | exact HB.out)⟩
      ·replace c24 := Bool.eq_false_iff.mpr c24
       subst c24
       have H1 : (some (0, 0, false)) = some (r1, r2, r3) := by rw [if_neg (show ¬ (false = true) by decide)] at H; exact H
       clear H
       have H := H1
       clear H1
       simp only [Option.some.injEq, Prod.mk.injEq] at H
       obtain ⟨rfl, rfl, rfl⟩ := H
       have hnb30 := NB115_107.out
       have hnc30 := NB107_115.out
       have hcz31_0 : wr.cell? ⟨gb115, 0, none⟩ = some (.int .u32 x116000_1) := (blk_cell BK115.out 0).trans rfl
       have hcz31_1 : wr.cell? ⟨gb115, 1, none⟩ = some (.int .i64 t114) := (blk_cell BK115.out 1).trans rfl
       have hfz31_0 := blk_frozen BK115.out 0
       have hfz31_1 := blk_frozen BK115.out 1
       go_wp2_with (first | (go_at_call 14; (with_reducible refine (addr_Right.calls x116000_1 t114 false _ A23.out).mono ?_); rintro e w32 ⟨rfl, hb⟩; have n0_ := Aside0.mk (Kd.R_below (by (with_reducible repeat (first | apply Kd.R_alloc | apply Kd.R_drewN | apply Kd.R_drew)); exact HO_7.out) hb); have n1_ := Aside0.mk (Kd.R_below (by (with_reducible repeat (first | apply Kd.R_alloc | apply Kd.R_drewN | apply Kd.R_drew)); exact HO_23.out) hb); have n2_ := Aside0.mk (blk_below (g := gb107) (o := .cells #[.int .u32 0, .int .i64 0] 24 (0, 0)) (by (with_reducible repeat (first | refine blk_drewN ?_ _ | refine blk_drew ?_ | refine blk_alloc ?_ _)); exact BK107.out) hb); have n3_ := Aside0.mk (blk_below (g := gb115) (o := .cells #[.int .u32 x116000_1, .int .i64 t114] 24 (0, 0)) (by (with_reducible repeat (first | refine blk_drewN ?_ _ | refine blk_drew ?_ | refine blk_alloc ?_ _)); exact BK115.out) hb); have n4_ := Aside0.mk (below_step (by repeat (first | (with_reducible first | exact HB.out | apply below_alloc | apply pw_below_drewN | apply below_drew1 | refine below_set ?_ GE107.out | refine below_set ?_ GE115.out) | exact HB.out)) hb); clear HO_7; clear HO_23; clear BK107; clear BK115; clear HB; have HO_7 := n0_; have HO_23 := n1_; have BK107 := n2_; have BK115 := n3_; have HB := n4_; clear n0_ n1_ n2_ n3_ n4_; (try clear hb); (try clear hb2); (try clear hk); (try clear hi); have hcz33_0 : w32.cell? ⟨gb107, 0, none⟩ = some (.int .u32 0) := (blk_cell BK107.out 0).trans rfl; have hcz33_1 : w32.cell? ⟨gb107, 1, none⟩ = some (.int .i64 0) := (blk_cell BK107.out 1).trans rfl; have hfz33_0 := blk_frozen BK107.out 0; have hfz33_1 := blk_frozen BK107.out 1))
       refine bodyPost_ret (results_ct rfl _ _ gb107 24 #[.int .u32 0, .int .i64 0] (0, 0) _ rfl (by (with_reducible repeat (first | refine blk_drewN ?_ _ | refine blk_drew ?_ | refine blk_alloc ?_ _)); refine blk_put (cs := #[.int .u32 0, .int .i64 0]) ?_ 1 _ rfl; (with_reducible repeat (first | refine blk_drewN ?_ _ | refine blk_drew ?_ | refine blk_alloc ?_ _)); refine blk_put (cs := #[.int .u32 0, .int .i64 0]) ?_ 0 _ rfl; (with_reducible repeat (first | refine blk_drewN ?_ _ | refine blk_drew ?_ | refine blk_alloc ?_ _)); exact BK107.out) Tryd.underlying24 rfl (by kernel_rfl)) rfl ?_
       exact ⟨by first | rfl | (simp [errW_none, errW_some] <;> rfl) | (simp [*, errW_none, errW_some] <;> rfl), by repeat (first | (with_reducible first | exact HB.out | apply below_alloc | apply pw_below_drewN | apply below_drew1 | refine below_set ?_ GE107.out | refine below_set ?_ GE115.out) | exact HB.out)⟩
     ·rw [if_neg c22] at H
      have c22b0 : ((t111.length : Int) == 4) = false := beq_eq_false_iff_ne.mpr c22
      have c22b1 : ((t111.length : Int) != 4) = true := bne_iff_ne.mpr c22
      simp only [Option.some.injEq, Prod.mk.injEq] at H
      obtain ⟨rfl, rfl, rfl⟩ := H
      have hnb34 := NB107_115.out
      have hnc34 := NB115_107.out
      have hcz35_0 : wr.cell? ⟨gb107, 0, none⟩ = some (.int .u32 0) := (blk_cell BK107.out 0).trans rfl
      have hcz35_1 : wr.cell? ⟨gb107, 1, none⟩ = some (.int .i64 0) := (blk_cell BK107.out 1).trans rfl
      have hfz35_0 := blk_frozen BK107.out 0
      have hfz35_1 := blk_frozen BK107.out 1
      go_wp2
      refine bodyPost_ret (results_ct rfl _ _ gb107 24 #[.int .u32 0, .int .i64 0] (0, 0) _ rfl (by (with_reducible repeat (first | refine blk_drewN ?_ _ | refine blk_drew ?_ | refine blk_alloc ?_ _)); refine blk_put (cs := #[.int .u32 0, .int .i64 0]) ?_ 1 _ rfl; (with_reducible repeat (first | refine blk_drewN ?_ _ | refine blk_drew ?_ | refine blk_alloc ?_ _)); refine blk_put (cs := #[.int .u32 0, .int .i64 0]) ?_ 0 _ rfl; (with_reducible repeat (first | refine blk_drewN ?_ _ | refine blk_drew ?_ | refine blk_alloc ?_ _)); exact BK107.out) Tryd.underlying24 rfl (by kernel_rfl)) rfl ?_
      exact ⟨by first | rfl | (simp [errW_none, errW_some] <;> rfl) | (simp [*, errW_none, errW_some] <;> rfl), by repeat (first | (with_reducible first | exact HB.out | apply below_alloc | apply pw_below_drewN | apply below_drew1 | refine below_set ?_ GE107.out | refine below_set ?_ GE115.out) | exact HB.out)⟩
    ·replace c21 := Bool.eq_false_iff.mpr c21
     subst c21
     have H1 : (some (0, 0, false)) = some (r1, r2, r3) := by rw [if_neg (show ¬ (false = true) by decide)] at H; exact H
     clear H
     have H := H1
     clear H1
     simp only [Option.some.injEq, Prod.mk.injEq] at H
     obtain ⟨rfl, rfl, rfl⟩ := H
     have hnb36 := NB107_115.out
     have hnc36 := NB115_107.out
     have hcz37_0 : wr.cell? ⟨gb107, 0, none⟩ = some (.int .u32 0) := (blk_cell BK107.out 0).trans rfl
     have hcz37_1 : wr.cell? ⟨gb107, 1, none⟩ = some (.int .i64 0) := (blk_cell BK107.out 1).trans rfl
     have hfz37_0 := blk_frozen BK107.out 0
     have hfz37_1 := blk_frozen BK107.out 1
     go_wp2
     refine bodyPost_ret (results_ct rfl _ _ gb107 24 #[.int .u32 0, .int .i64 0] (0, 0) _ rfl (by (with_reducible repeat (first | refine blk_drewN ?_ _ | refine blk_drew ?_ | refine blk_alloc ?_ _)); refine blk_put (cs := #[.int .u32 0, .int .i64 0]) ?_ 1 _ rfl; (with_reducible repeat (first | refine blk_drewN ?_ _ | refine blk_drew ?_ | refine blk_alloc ?_ _)); refine blk_put (cs := #[.int .u32 0, .int .i64 0]) ?_ 0 _ rfl; (with_reducible repeat (first | refine blk_drewN ?_ _ | refine blk_drew ?_ | refine blk_alloc ?_ _)); exact BK107.out) Tryd.underlying24 rfl (by kernel_rfl)) rfl ?_
     exact ⟨by first | rfl | (simp [errW_none, errW_some] <;> rfl) | (simp [*, errW_none, errW_some] <;> rfl), by repeat (first | (with_reducible first | exact HB.out | apply below_alloc | apply pw_below_drewN | apply below_drew1 | refine below_set ?_ GE107.out | refine below_set ?_ GE115.out) | exact HB.out)⟩
end Go.Proofs.YtokfgajfkopelaaDoor.BP
namespace Go.Proofs.YtokfgajfkopelaaDoor.Mine
open Go.RowKit Go.Proofs.YtokfgajfkopelaaDoorW.PrintWords Go.Proofs.YtokfgajfkopelaaDoorW.PrintLast Go.Proofs.YtokfgajfkopelaaDoorW.PrintMore
set_option linter.unusedVariables false
set_option linter.unusedSimpArgs false
def numL (most : Int) : List UInt8 → Int → Int
  | [], n => n
  | c :: l, n => if c.toNat < 48 then -1 else if 57 < c.toNat then -1 else if n > most then -1 else numL most l (10 * n + ((c.toNat : Int) - 48))
def numEnd (s : ByteArray) (most n : Int) : Int := if s.toList = [] then -1 else if n > most then -1 else if 1 < s.size ∧ bt s 0 = 48 then -1 else n
def numP (s : ByteArray) (most : Int) : Int := numEnd s most (numL most s.data.toList 0)
theorem bt_get (s : ByteArray) (i : Nat) (h : i < s.size) : bt s i = ((s.data.toList[i]'(by simpa using h)).toNat : Int) := by
  have := bt_at s (i : Int) (by simpa using h)
  rw [← this]
  simp
  rfl
theorem numEnd_none (s : ByteArray) (most : Int) (hm : 0 ≤ most) : numEnd s most (-1) = -1 := by
  unfold numEnd
  split
  · rfl
  · split
    · rfl
    · split <;> rfl
theorem number_l (s : ByteArray) (most : Int) (m0 : 0 ≤ most) (m1 : most ≤ 255) (hs : s.size < 4294967296) : ∀ (d k i : Nat) (n : Int), i + d = s.size → d < k → 0 ≤ n → n ≤ 10 * most + 9 →
    BP.addr_number.l0 k s most n (s.size : Int) i = some (numEnd s most (numL most (s.data.toList.drop i) n)) := by
  intro d
  induction d with
  | zero =>
    intro k i n hi hk n0 n1
    obtain ⟨k, rfl⟩ : ∃ j, k = j + 1 := ⟨k - 1, by omega⟩
    have hl : s.data.toList.drop i = [] := List.drop_eq_nil_of_le (by simp; have : s.data.size = s.size := rfl; omega)
    rw [hl]
    simp only [BP.addr_number.l0]
    rw [if_neg (by omega)]
    unfold numL numEnd
    by_cases he : s.toList = []
    · rw [if_pos he, if_pos he]
    · rw [if_neg he, if_neg he]
      by_cases hn : n > most
      · rw [if_pos hn, if_pos hn]
      · rw [if_neg hn, if_neg hn]
        by_cases hz : (s.size : Int) > 1
        · rw [if_pos hz, if_pos (by omega)]
          by_cases hb : bt s 0 = 48
          · rw [if_pos hb, if_pos ⟨by omega, hb⟩]
          · rw [if_neg hb, if_neg (fun h => hb h.2)]
        · rw [if_neg hz, if_neg (by omega)]
  | succ d ih =>
    intro k i n hi hk n0 n1
    obtain ⟨k, rfl⟩ : ∃ j, k = j + 1 := ⟨k - 1, by omega⟩
    have hlt : i < s.size := by omega
    have hb := bt_get s i hlt
    rw [List.drop_eq_getElem_cons (by simpa using hlt)]
    obtain ⟨c, hc⟩ : ∃ c, s.data.toList[i]'(by simpa using hlt) = c := ⟨_, rfl⟩
    rw [hc] at hb ⊢
    simp only [BP.addr_number.l0, numL]
    rw [if_pos (by omega), if_pos (by omega), if_pos (by omega), hb]
    by_cases h1 : c.toNat < 48
    · rw [if_pos (by omega), if_pos h1, numEnd_none s most m0]
    · rw [if_neg (by omega), if_neg h1]
      by_cases h2 : 57 < c.toNat
      · rw [if_pos (by omega), if_pos h2, numEnd_none s most m0]
      · rw [if_neg (by omega), if_neg h2]
        by_cases h3 : n > most
        · rw [if_pos h3, if_pos h3, numEnd_none s most m0]
        · rw [if_neg h3, if_neg h3, wrap64_id (10 * n) (by omega) (by omega), show ((c.toNat : Int) - 48) % 256 = (c.toNat : Int) - 48 by omega, wrap64_id _ (by omega) (by omega), wrap64_id _ (by omega) (by omega)]
          exact ih k (i + 1) _ (by omega) (by omega) (by omega) (by omega)
theorem number_f (k : Nat) (s : ByteArray) (most : Int) (hk : s.size < k) (m0 : 0 ≤ most) (m1 : most ≤ 255) (hs : s.size < 4294967296) : BP.addr_number.f k s most = some (numP s most) :=
  number_l s most m0 m1 hs s.size k 0 0 (by omega) hk (by omega) (by omega)
def stepA (a n : Int) : Int := bits .or .u32 ((a * 256) % 4294967296) ((bits .and .i64 n 255) % 4294967296)
theorem or_range (x y : Int) : 0 ≤ bits .or .u32 x y ∧ bits .or .u32 x y < 4294967296 := by
  have h : ∃ z, bits .or .u32 x y = IntKind.u32.wrap z := ⟨_, rfl⟩
  obtain ⟨z, hz⟩ := h
  rw [hz, IntKind.wrap_u32]
  have : (4294967296 : Int) ≠ 0 := by decide
  exact ⟨Int.emod_nonneg _ this, Int.emod_lt_of_pos _ (by decide)⟩
def parseEnd (ok : Bool) (l : Nat) (a n : Int) : Int × Int × Bool := if ok = true then (if l = 4 then (if rightB a n = true then (a, n, true) else (0, 0, false)) else (0, 0, false)) else (0, 0, false)
def parseP (s : ByteArray) : Int × Int × Bool :=
  let c := Lib.cut s.data.toList [47]
  let l := Lib.splitB ⟨#[46]⟩ 0 (Lib.countB ⟨c.1.toArray⟩ ⟨#[46]⟩) ⟨c.1.toArray⟩
  parseEnd (c.2.2 && l.all (fun x => decide (0 ≤ numP x 255))) l.length (l.foldl (fun a x => stepA a (numP x 255)) 0) (numP ⟨c.2.1.toArray⟩ 32)
theorem parse_l (L : List ByteArray) (n : Int) (M : Nat) (hM : ∀ x ∈ L, x.size < M) (hM2 : M < 4294967296) (hL : L.length < 4294967296) : ∀ (d k i : Nat) (a : Int) (ok : Bool), i + d = L.length → d + M + 1 < k → 0 ≤ a → a < 4294967296 →
    BP.addr_Parse.l0 k ok L L (L.length : Int) i a n = some (parseEnd (ok && (L.drop i).all (fun x => decide (0 ≤ numP x 255))) L.length ((L.drop i).foldl (fun a x => stepA a (numP x 255)) a) n) := by
  intro d
  induction d with
  | zero =>
    intro k i a ok hi hk a0 a1
    obtain ⟨k, rfl⟩ : ∃ j, k = j + 1 := ⟨k - 1, by omega⟩
    rw [List.drop_eq_nil_of_le (by omega)]
    simp only [BP.addr_Parse.l0]
    rw [if_neg (by omega)]
    rw [List.all_nil, Bool.and_true, List.foldl_nil]
    unfold parseEnd
    cases ok
    · rfl
    · rw [if_pos rfl, if_pos rfl]
      by_cases h4 : L.length = 4
      · rw [if_pos (by omega), if_pos h4, right_f a n a0 a1]
        simp only [Option.bind_some]
        by_cases hr : rightB a n = true
        · rw [if_pos hr, if_pos hr]
        · rw [if_neg hr, if_neg hr]
      · rw [if_neg (by omega), if_neg h4]
  | succ d ih =>
    intro k i a ok hi hk a0 a1
    obtain ⟨k, rfl⟩ : ∃ j, k = j + 1 := ⟨k - 1, by omega⟩
    have hlt : i < L.length := by omega
    have hx : rdOf ByteArray.empty L (i : Int) = L[i] := by
      unfold rdOf
      rw [Int.toNat_natCast, List.getD_eq_getElem?_getD, List.getElem?_eq_getElem hlt]
      rfl
    have hsz := hM L[i] (List.getElem_mem hlt)
    rw [List.drop_eq_getElem_cons hlt]
    simp only [BP.addr_Parse.l0]
    rw [if_pos (by omega), if_pos (by omega), if_pos (by omega), hx, number_f k L[i] 255 (by omega) (by omega) (by omega) (by omega)]
    simp only [Option.bind_some, List.all_cons, List.foldl_cons]
    rw [wrap64_id _ (by omega) (by omega)]
    have h2 := ih k (i + 1) (stepA a (numP L[i] 255)) (ok && decide (0 ≤ numP L[i] 255)) (by omega) (by omega) (or_range _ _).1 (or_range _ _).2
    rw [Bool.and_assoc] at h2
    cases ok
    · rw [if_neg (by decide)]
      exact h2
    · rw [if_pos rfl]
      exact h2
theorem splitB_size (sep : ByteArray) (sv : Nat) : ∀ (k : Nat) (s : ByteArray) (M : Nat), s.size ≤ M → ∀ x ∈ Lib.splitB sep sv k s, x.size ≤ M
  | 0, s, M, hs, x, hx => by
    simp only [Lib.splitB, List.mem_singleton] at hx
    subst hx
    exact hs
  | k + 1, s, M, hs, x, hx => by
    unfold Lib.splitB at hx
    split at hx
    · simp only [List.mem_singleton] at hx
      subst hx
      exact hs
    · rcases List.mem_cons.1 hx with rfl | hx
      · rw [ByteArray.size_extract]
        omega
      · exact splitB_size sep sv k _ M (by rw [ByteArray.size_extract]; omega) x hx
theorem cut_len (s sep : List UInt8) : (Lib.cut s sep).1.length ≤ s.length ∧ (Lib.cut s sep).2.1.length ≤ s.length := by
  unfold Lib.cut
  split
  · simp
    omega
  · simp
theorem split_len (s : ByteArray) : (Lib.splitB ⟨#[46]⟩ 0 (Lib.countB s ⟨#[46]⟩) s).length ≤ s.size + 1 := by
  have h1 : 1 ≤ (⟨#[46]⟩ : ByteArray).size := by decide
  rw [Lib.splitB_all _ h1 0 _ s rfl]
  have := Lib.countB_mul_le _ h1 _ s (Nat.le_refl _)
  have := Nat.le_trans (Nat.le_mul_of_pos_right (Lib.countB s ⟨#[46]⟩) h1) this
  omega
theorem parse_f (k : Nat) (s : ByteArray) (hs : s.size < 1000) (hk : 3000 ≤ k) : BP.addr_Parse.f k s = some (parseP s) := by
  unfold BP.addr_Parse.f BP.strings_Cut.f parseP
  have hc := cut_len s.data.toList (⟨#[47]⟩ : ByteArray).data.toList
  have hz : s.data.toList.length = s.size := by simp
  rw [if_pos (by omega)]
  simp only [Option.bind_some]
  have e47 : (⟨#[47]⟩ : ByteArray).data.toList = [47] := rfl
  rw [e47] at *
  generalize Lib.cut s.data.toList [47] = c at *
  obtain ⟨c1, c2, c3⟩ := c
  simp only at *
  unfold BP.strings_Split.f
  have hs1 : (⟨c1.toArray⟩ : ByteArray).size = c1.length := by simp [ByteArray.size]
  have hs2 : (⟨c2.toArray⟩ : ByteArray).size = c2.length := by simp [ByteArray.size]
  rw [if_pos ⟨by omega, by decide⟩]
  simp only [Option.bind_some]
  rw [number_f k _ 32 (by omega) (by omega) (by omega) (by omega)]
  simp only [Option.bind_some]
  have hl := split_len ⟨c1.toArray⟩
  have hm := splitB_size ⟨#[46]⟩ 0 (Lib.countB ⟨c1.toArray⟩ ⟨#[46]⟩) ⟨c1.toArray⟩ 1000 (by omega)
  generalize Lib.splitB ⟨#[46]⟩ 0 (Lib.countB ⟨c1.toArray⟩ ⟨#[46]⟩) ⟨c1.toArray⟩ = L at *
  exact parse_l L _ 1001 (fun x hx => by have := hm x hx; omega) (by omega) (by omega) L.length k 0 0 c3 (by omega) (by omega) (by omega) (by omega)
end Go.Proofs.YtokfgajfkopelaaDoor.Mine
namespace Go.Proofs.YtokfgajfkopelaaDoor.BP
open Go.RowKit Go.Proofs.YtokfgajfkopelaaDoor.Mine Go.Proofs.YtokfgajfkopelaaDoorW.PrintWords Go.Proofs.YtokfgajfkopelaaDoorW.PrintLast Go.Proofs.YtokfgajfkopelaaDoorW.PrintMore
set_option linter.unusedVariables false
def addr_ParseP.f (s : ByteArray) : Option (Int × Int × Bool) := if s.size < 1000 then some (parseP s) else none
theorem addr_ParseP.calls (a0 : ByteArray) (r1 r2 : Int) (r3 : Bool) (w : World) (henv : Env w) (h : addr_ParseP.f a0 = some (r1, r2, r3)) :
    Calls Tryd.prog 12 #[.string a0] w fun e w' => e = .returned (.tuple #[.agg #[.int .u32 r1, .int .i64 r2], .bool r3]) ∧ Below w.heap.size w w' := by
  unfold addr_ParseP.f at h
  split at h
  · rename_i hs
    exact addr_Parse.calls 3000 a0 r1 r2 r3 w henv ((parse_f 3000 a0 hs (Nat.le_refl _)).trans h)
  · exact absurd h (by simp)
def addr_TextP.f (a n : Int) : Option ByteArray := if 0 ≤ a ∧ a < 4294967296 then some (textP a n) else none
theorem addr_TextP.calls (a0_0 a0_1 : Int) (r : ByteArray) (w : World) (henv : Env w) (h : addr_TextP.f a0_0 a0_1 = some r) :
    Calls Tryd.prog 13 #[.agg #[.int .u32 a0_0, .int .i64 a0_1]] w fun e w' => e = .returned (.string r) ∧ Below w.heap.size w w' := by
  unfold addr_TextP.f at h
  split at h
  · rename_i hs
    injection h with h
    subst h
    exact text_any a0_0 a0_1 hs.1 hs.2 w henv
  · exact absurd h (by simp)
end Go.Proofs.YtokfgajfkopelaaDoor.BP
namespace Go.Proofs.YtokfgajfkopelaaDoor.BP
open Go.Proofs.YtokfgajfkopelaaDoor.Mine
open Go.RowKit Go.Proofs.YtokfgajfkopelaaDoorW.PrintWords Go.Proofs.YtokfgajfkopelaaDoorW.PrintLast Go.Proofs.YtokfgajfkopelaaDoorW.PrintMore
attribute [local go_sem] max2_int min2_int max_two min_two max_three min_three max_four min_four
set_option linter.unusedVariables false
set_option linter.unusedSimpArgs false
theorem eqA24 (d : Nat) (w : World) (x0 y0 : Int) (x1 y1 : Int) :
 (Op.equalIn (d + 2) 24 (.agg #[.int .u32 x0, .int .i64 x1]) (.agg #[.int .u32 y0, .int .i64 y1])).run Tryd.prog w = .ok (x0 == y0 && (x1 == y1)) w := by
 refine eqA_of Tryd.underlying24 (by kernel_rfl) ?_
 refine eqf_cons (by rfl) (by go_simp; rfl) (by go_simp; rfl) (by go_simp) ?_
 exact eqf_last (by rfl) (by go_simp; rfl) (by go_simp; rfl) (by go_simp)
attribute [local go_sem high] eqA24
def signpostlaw1_known.f  : Option (Bool) := (addr_ParseP.f (⟨#[49, 48, 46, 48, 46, 48, 46, 48, 47, 56]⟩ : ByteArray)).bind fun bt129 => ((addr_ParseP.f (⟨#[49, 48, 46, 48, 46, 48, 46, 49, 47, 56]⟩ : ByteArray)).bind fun bt133 => (if bt129.2.2 = true then (if (bt129.1 == 167772160 && (bt129.2.1 == 8)) = true then ((addr_TextP.f bt129.1 bt129.2.1).bind fun t137 => (if t137.toList = ([49, 48, 46, 48, 46, 48, 46, 48, 47, 56] : List UInt8) then (if bt133.2.2 = true then (some false) else ((addr_Mask.f 9).bind fun t138 => (some (t138 == 4286578688)))) else (some false))) else (some false)) else (some false)))
set_option maxHeartbeats 8000000 in
set_option maxRecDepth 100000 in
theorem signpostlaw1_known.calls  (r : Bool) (w : World) (henv : Env w) (h : signpostlaw1_known.f  = some r) :
 Calls Tryd.prog 15 #[] w fun e w' => e = .returned (.bool r) ∧ Below w.heap.size w w' := by
 have hu24 := Tryd.underlying24
 have HB := Aside0.mk (Below.refl w.heap.size w)
 have HENV := Aside0.mk henv
 clear henv
 have H : ((addr_ParseP.f (⟨#[49, 48, 46, 48, 46, 48, 46, 48, 47, 56]⟩ : ByteArray)).bind fun bt129 => ((addr_ParseP.f (⟨#[49, 48, 46, 48, 46, 48, 46, 49, 47, 56]⟩ : ByteArray)).bind fun bt133 => (if bt129.2.2 = true then (if (bt129.1 == 167772160 && (bt129.2.1 == 8)) = true then ((addr_TextP.f bt129.1 bt129.2.1).bind fun t137 => (if t137.toList = ([49, 48, 46, 48, 46, 48, 46, 48, 47, 56] : List UInt8) then (if bt133.2.2 = true then (some false) else ((addr_Mask.f 9).bind fun t138 => (some (t138 == 4286578688)))) else (some false))) else (some false)) else (some false)))) = some r := h
 clear h
 replace H := Option.bind_eq_some_iff.mp H
 obtain ⟨⟨t129, t130, t131⟩, A10, H⟩ := H
 replace H : ((addr_ParseP.f (⟨#[49, 48, 46, 48, 46, 48, 46, 49, 47, 56]⟩ : ByteArray)).bind fun bt133 => (if t131 = true then (if (t129 == 167772160 && (t130 == 8)) = true then ((addr_TextP.f t129 t130).bind fun t137 => (if t137.toList = ([49, 48, 46, 48, 46, 48, 46, 48, 47, 56] : List UInt8) then (if bt133.2.2 = true then (some false) else ((addr_Mask.f 9).bind fun t138 => (some (t138 == 4286578688)))) else (some false))) else (some false)) else (some false))) = some r := H
 have A1 := Aside0.mk A10
 clear A10
 replace H := Option.bind_eq_some_iff.mp H
 obtain ⟨⟨t133, t134, t135⟩, A20, H⟩ := H
 replace H : (if t131 = true then (if (t129 == 167772160 && (t130 == 8)) = true then ((addr_TextP.f t129 t130).bind fun t137 => (if t137.toList = ([49, 48, 46, 48, 46, 48, 46, 48, 47, 56] : List UInt8) then (if t135 = true then (some false) else ((addr_Mask.f 9).bind fun t138 => (some (t138 == 4286578688)))) else (some false))) else (some false)) else (some false)) = some r := H
 have A2 := Aside0.mk A20
 clear A20
 by_cases c3 : t131 = true
 ·subst c3
  have H1 : (if (t129 == 167772160 && (t130 == 8)) = true then ((addr_TextP.f t129 t130).bind fun t137 => (if t137.toList = ([49, 48, 46, 48, 46, 48, 46, 48, 47, 56] : List UInt8) then (if t135 = true then (some false) else ((addr_Mask.f 9).bind fun t138 => (some (t138 == 4286578688)))) else (some false))) else (some false)) = some r := by rw [if_pos rfl] at H; exact H
  clear H
  have H := H1
  clear H1
  by_cases c4 : (t129 == 167772160 && (t130 == 8)) = true
  ·rw [if_pos c4] at H
   have c4b0 : (t129 == 167772160 && (t130 == 8)) = true := c4
   (try (have c4b1 : decide (t129 = 167772160 && (t130 == 8)) = true := by simpa using c4))
   (try (have c4b2 : (t129 == 167772160 && (t130 == 8)) = true := by simpa using c4))
   clear c4
   replace H := Option.bind_eq_some_iff.mp H
   obtain ⟨t137, A50, H⟩ := H
   replace H : (if t137.toList = ([49, 48, 46, 48, 46, 48, 46, 48, 47, 56] : List UInt8) then (if t135 = true then (some false) else ((addr_Mask.f 9).bind fun t138 => (some (t138 == 4286578688)))) else (some false)) = some r := H
   have A5 := Aside0.mk A50
   clear A50
   by_cases c6 : t137.toList = ([49, 48, 46, 48, 46, 48, 46, 48, 47, 56] : List UInt8)
   ·rw [if_pos c6] at H
    have c6b0 : (t137.toList == ([49, 48, 46, 48, 46, 48, 46, 48, 47, 56] : List UInt8)) = true := beq_iff_eq.mpr c6
    have c6b1 : (t137.toList != ([49, 48, 46, 48, 46, 48, 46, 48, 47, 56] : List UInt8)) = false := bne_eq_false_iff_eq.mpr c6
    clear c6
    by_cases c7 : t135 = true
    ·subst c7
     have H1 : (some false) = some r := by rw [if_pos rfl] at H; exact H
     clear H
     have H := H1
     clear H1
     obtain rfl := Option.some.inj H
     go_enter Tryd.func15, Tryd.ntmps15
     go_wp2_with (first | ((with_reducible refine gate_callee (f := 12) rfl ?_); refine goesL_ (some 6) rfl rfl Tryd.func12 (by kernel_rfl) rfl #[.string (⟨#[49, 48, 46, 48, 46, 48, 46, 48, 47, 56]⟩ : ByteArray)] rfl (by (try simp only [List.map_toArray, List.map_cons, List.map_nil]); first | done | rfl | (simp only [List.length_drop, List.length_take]; rfl)) ?_; (with_reducible refine (addr_ParseP.calls (⟨#[49, 48, 46, 48, 46, 48, 46, 48, 47, 56]⟩ : ByteArray) t129 t130 true _ (HENV.out.below (by repeat (first | (with_reducible first | exact HB.out | apply below_alloc | apply pw_below_drewN | apply below_drew1) | exact HB.out))) A1.out).mono ?_); rintro e w8 ⟨rfl, hb⟩; refine ⟨_, rfl, ?_⟩; have n0_ := Aside0.mk (below_step (by repeat (first | (with_reducible first | exact HB.out | apply below_alloc | apply pw_below_drewN | apply below_drew1) | exact HB.out)) hb); clear HB; have HB := n0_; clear n0_; (try clear hb); (try clear hb2); (try clear hk); (try clear hi)) | ((with_reducible refine gate_dst (N := 1) rfl ?_); refine box_event ?hg (N := 1) ?hd (cs := #[.int .u32 0, .int .i64 0]) (t := 24) ?hr ?_; (case hd => rfl); (case hg => rfl); (case hr => first | (go_simp; done) | (go_simp; rfl)); intro gb132 hg w9 hbox hb; have n0_ := Aside0.mk (below_step (by repeat (first | (with_reducible first | exact HB.out | apply below_alloc | apply pw_below_drewN | apply below_drew1) | exact HB.out)) hb); have n1_ := Aside0.mk (hbox); have n2_ := Aside0.mk ((by rw [hg]; exact (below_size (by repeat (first | (with_reducible first | exact HB.out | apply below_alloc | apply pw_below_drewN | apply below_drew1) | exact HB.out))) : w.heap.size ≤ gb132)); have n3_ := Aside0.mk ((by rw [hg]; exact (below_size (by repeat (first | (with_reducible first | exact HB.out | apply below_alloc | apply pw_below_drewN | apply below_drew1) | exact HB.out))) : w.heap.size ≤ gb132)); clear HB; have HB := n0_; have BK132 := n1_; have GW132 := n2_; have GE132 := n3_; clear n0_ n1_ n2_ n3_; clear hb hbox hg; have hcz10_0 : w9.cell? ⟨gb132, 0, none⟩ = some (.int .u32 0) := (blk_cell BK132.out 0).trans rfl; have hcz10_1 : w9.cell? ⟨gb132, 1, none⟩ = some (.int .i64 0) := (blk_cell BK132.out 1).trans rfl; have hfz10_0 := blk_frozen BK132.out 0; have hfz10_1 := blk_frozen BK132.out 1) | ((with_reducible refine gate_callee (f := 12) rfl ?_); refine goesL_ (some 10) rfl rfl Tryd.func12 (by kernel_rfl) rfl #[.string (⟨#[49, 48, 46, 48, 46, 48, 46, 49, 47, 56]⟩ : ByteArray)] rfl (by (try simp only [List.map_toArray, List.map_cons, List.map_nil]); first | done | rfl | (simp only [List.length_drop, List.length_take]; rfl)) ?_; (with_reducible refine (addr_ParseP.calls (⟨#[49, 48, 46, 48, 46, 48, 46, 49, 47, 56]⟩ : ByteArray) t133 t134 true _ (HENV.out.below (by repeat (first | (with_reducible first | exact HB.out | apply below_alloc | apply pw_below_drewN | apply below_drew1 | refine below_set ?_ GE132.out) | exact HB.out))) A2.out).mono ?_); rintro e w11 ⟨rfl, hb⟩; refine ⟨_, rfl, ?_⟩; have n0_ := Aside0.mk (blk_below (g := gb132) (o := .cells #[.int .u32 t129, .int .i64 t130] 24 (0, 0)) (by (with_reducible repeat (first | refine blk_drewN ?_ _ | refine blk_drew ?_ | refine blk_alloc ?_ _)); refine blk_put (cs := #[.int .u32 t129, .int .i64 0]) ?_ 1 _ rfl; (with_reducible repeat (first | refine blk_drewN ?_ _ | refine blk_drew ?_ | refine blk_alloc ?_ _)); refine blk_put (cs := #[.int .u32 0, .int .i64 0]) ?_ 0 _ rfl; (with_reducible repeat (first | refine blk_drewN ?_ _ | refine blk_drew ?_ | refine blk_alloc ?_ _)); exact BK132.out) hb); have n1_ := Aside0.mk (below_step (by repeat (first | (with_reducible first | exact HB.out | apply below_alloc | apply pw_below_drewN | apply below_drew1 | refine below_set ?_ GE132.out) | exact HB.out)) hb); clear BK132; clear HB; have BK132 := n0_; have HB := n1_; clear n0_ n1_; (try clear hb); (try clear hb2); (try clear hk); (try clear hi)) | ((with_reducible refine gate_dst (N := 3) rfl ?_); refine box_event ?hg (N := 3) ?hd (cs := #[.int .u32 0, .int .i64 0]) (t := 24) ?hr ?_; (case hd => rfl); (case hg => rfl); (case hr => first | (go_simp; done) | (go_simp; rfl)); intro gb136 hg w12 hbox hb; have n0_ := Aside0.mk (blk_below (g := gb132) (o := .cells #[.int .u32 t129, .int .i64 t130] 24 (0, 0)) (by (with_reducible repeat (first | refine blk_drewN ?_ _ | refine blk_drew ?_ | refine blk_alloc ?_ _)); exact BK132.out) hb); have n1_ := Aside0.mk (below_step (by repeat (first | (with_reducible first | exact HB.out | apply below_alloc | apply pw_below_drewN | apply below_drew1 | refine below_set ?_ GE132.out) | exact HB.out)) hb); have n2_ := Aside0.mk (hbox); have n3_ := Aside0.mk ((by rw [hg]; exact (below_size (by repeat (first | (with_reducible first | exact HB.out | apply below_alloc | apply pw_below_drewN | apply below_drew1 | refine below_set ?_ GE132.out) | exact HB.out))) : w.heap.size ≤ gb136)); have n4_ := Aside0.mk ((by rw [hg]; exact (below_size (by repeat (first | (with_reducible first | exact HB.out | apply below_alloc | apply pw_below_drewN | apply below_drew1 | refine below_set ?_ GE132.out) | exact HB.out))) : w.heap.size ≤ gb136)); have n5_ := Aside0.mk ((by rw [hg]; exact Nat.ne_of_lt (blk_lt (g := gb132) (o := .cells #[.int .u32 t129, .int .i64 t130] 24 (0, 0)) (by (with_reducible repeat (first | refine blk_drewN ?_ _ | refine blk_drew ?_ | refine blk_alloc ?_ _)); exact BK132.out)) : gb132 ≠ gb136)); have n6_ := Aside0.mk ((by rw [hg]; exact Nat.ne_of_gt (blk_lt (g := gb132) (o := .cells #[.int .u32 t129, .int .i64 t130] 24 (0, 0)) (by (with_reducible repeat (first | refine blk_drewN ?_ _ | refine blk_drew ?_ | refine blk_alloc ?_ _)); exact BK132.out)) : gb136 ≠ gb132)); clear BK132; clear HB; have BK132 := n0_; have HB := n1_; have BK136 := n2_; have GW136 := n3_; have GE136 := n4_; have NB132_136 := n5_; have NB136_132 := n6_; clear n0_ n1_ n2_ n3_ n4_ n5_ n6_; clear hb hbox hg; have hnb13 := NB136_132.out; have hnc13 := NB132_136.out; have hcz14_0 : w12.cell? ⟨gb136, 0, none⟩ = some (.int .u32 0) := (blk_cell BK136.out 0).trans rfl; have hcz14_1 : w12.cell? ⟨gb136, 1, none⟩ = some (.int .i64 0) := (blk_cell BK136.out 1).trans rfl; have hfz14_0 := blk_frozen BK136.out 0; have hfz14_1 := blk_frozen BK136.out 1; have hcz15_0 : w12.cell? ⟨gb132, 0, none⟩ = some (.int .u32 t129) := (blk_cell BK132.out 0).trans rfl; have hcz15_1 : w12.cell? ⟨gb132, 1, none⟩ = some (.int .i64 t130) := (blk_cell BK132.out 1).trans rfl; have hfz15_0 := blk_frozen BK132.out 0; have hfz15_1 := blk_frozen BK132.out 1) | (go_at_call 13; (with_reducible refine (addr_TextP.calls t129 t130 t137 _ (HENV.out.below (by repeat (first | (with_reducible first | exact HB.out | apply below_alloc | apply pw_below_drewN | apply below_drew1 | refine below_set ?_ GE132.out | refine below_set ?_ GE136.out) | exact HB.out))) A5.out).mono ?_); rintro e w16 ⟨rfl, hb⟩; have n0_ := Aside0.mk (blk_below (g := gb132) (o := .cells #[.int .u32 t129, .int .i64 t130] 24 (0, 0)) (by (with_reducible repeat (first | refine blk_drewN ?_ _ | refine blk_drew ?_ | refine blk_alloc ?_ _)); refine blk_far ?_ NB132_136.out _; (with_reducible repeat (first | refine blk_drewN ?_ _ | refine blk_drew ?_ | refine blk_alloc ?_ _)); refine blk_far ?_ NB132_136.out _; (with_reducible repeat (first | refine blk_drewN ?_ _ | refine blk_drew ?_ | refine blk_alloc ?_ _)); exact BK132.out) hb); have n1_ := Aside0.mk (blk_below (g := gb136) (o := .cells #[.int .u32 t133, .int .i64 t134] 24 (0, 0)) (by (with_reducible repeat (first | refine blk_drewN ?_ _ | refine blk_drew ?_ | refine blk_alloc ?_ _)); refine blk_put (cs := #[.int .u32 t133, .int .i64 0]) ?_ 1 _ rfl; (with_reducible repeat (first | refine blk_drewN ?_ _ | refine blk_drew ?_ | refine blk_alloc ?_ _)); refine blk_put (cs := #[.int .u32 0, .int .i64 0]) ?_ 0 _ rfl; (with_reducible repeat (first | refine blk_drewN ?_ _ | refine blk_drew ?_ | refine blk_alloc ?_ _)); exact BK136.out) hb); have n2_ := Aside0.mk (below_step (by repeat (first | (with_reducible first | exact HB.out | apply below_alloc | apply pw_below_drewN | apply below_drew1 | refine below_set ?_ GE132.out | refine below_set ?_ GE136.out) | exact HB.out)) hb); clear BK132; clear BK136; clear HB; have BK132 := n0_; have BK136 := n1_; have HB := n2_; clear n0_ n1_ n2_; (try clear hb); (try clear hb2); (try clear hk); (try clear hi)))
     go_ret
     exact ⟨by first | rfl | (simp [errW_none, errW_some] <;> rfl) | (simp [*, errW_none, errW_some] <;> rfl), by repeat (first | (with_reducible first | exact HB.out | apply below_alloc | apply pw_below_drewN | apply below_drew1 | refine below_set ?_ GE132.out | refine below_set ?_ GE136.out) | exact HB.out)⟩
    ·replace c7 := Bool.eq_false_iff.mpr c7
     subst c7
     have H1 : ((addr_Mask.f 9).bind fun t138 => (some (t138 == 4286578688))) = some r := by rw [if_neg (show ¬ (false = true) by decide)] at H; exact H
     clear H
     have H := H1
     clear H1
     replace H := Option.bind_eq_some_iff.mp H
     obtain ⟨t138, A170, H⟩ := H
     replace H : (some (t138 == 4286578688)) = some r := H
     have A17 := Aside0.mk A170
     clear A170
     obtain rfl := Option.some.inj H
     go_enter Tryd.func15, Tryd.ntmps15
     go_wp2_with (first | ((with_reducible refine gate_callee (f := 12) rfl ?_); refine goesL_ (some 6) rfl rfl Tryd.func12 (by kernel_rfl) rfl #[.string (⟨#[49, 48, 46, 48, 46, 48, 46, 48, 47, 56]⟩ : ByteArray)] rfl (by (try simp only [List.map_toArray, List.map_cons, List.map_nil]); first | done | rfl | (simp only [List.length_drop, List.length_take]; rfl)) ?_; (with_reducible refine (addr_ParseP.calls (⟨#[49, 48, 46, 48, 46, 48, 46, 48, 47, 56]⟩ : ByteArray) t129 t130 true _ (HENV.out.below (by repeat (first | (with_reducible first | exact HB.out | apply below_alloc | apply pw_below_drewN | apply below_drew1) | exact HB.out))) A1.out).mono ?_); rintro e w18 ⟨rfl, hb⟩; refine ⟨_, rfl, ?_⟩; have n0_ := Aside0.mk (below_step (by repeat (first | (with_reducible first | exact HB.out | apply below_alloc | apply pw_below_drewN | apply below_drew1) | exact HB.out)) hb); clear HB; have HB := n0_; clear n0_; (try clear hb); (try clear hb2); (try clear hk); (try clear hi)) | ((with_reducible refine gate_dst (N := 1) rfl ?_); refine box_event ?hg (N := 1) ?hd (cs := #[.int .u32 0, .int .i64 0]) (t := 24) ?hr ?_; (case hd => rfl); (case hg => rfl); (case hr => first | (go_simp; done) | (go_simp; rfl)); intro gb132 hg w19 hbox hb; have n0_ := Aside0.mk (below_step (by repeat (first | (with_reducible first | exact HB.out | apply below_alloc | apply pw_below_drewN | apply below_drew1) | exact HB.out)) hb); have n1_ := Aside0.mk (hbox); have n2_ := Aside0.mk ((by rw [hg]; exact (below_size (by repeat (first | (with_reducible first | exact HB.out | apply below_alloc | apply pw_below_drewN | apply below_drew1) | exact HB.out))) : w.heap.size ≤ gb132)); have n3_ := Aside0.mk ((by rw [hg]; exact (below_size (by repeat (first | (with_reducible first | exact HB.out | apply below_alloc | apply pw_below_drewN | apply below_drew1) | exact HB.out))) : w.heap.size ≤ gb132)); clear HB; have HB := n0_; have BK132 := n1_; have GW132 := n2_; have GE132 := n3_; clear n0_ n1_ n2_ n3_; clear hb hbox hg; have hcz20_0 : w19.cell? ⟨gb132, 0, none⟩ = some (.int .u32 0) := (blk_cell BK132.out 0).trans rfl; have hcz20_1 : w19.cell? ⟨gb132, 1, none⟩ = some (.int .i64 0) := (blk_cell BK132.out 1).trans rfl; have hfz20_0 := blk_frozen BK132.out 0; have hfz20_1 := blk_frozen BK132.out 1) | ((with_reducible refine gate_callee (f := 12) rfl ?_); refine goesL_ (some 10) rfl rfl Tryd.func12 (by kernel_rfl) rfl #[.string (⟨#[49, 48, 46, 48, 46, 48, 46, 49, 47, 56]⟩ : ByteArray)] rfl (by (try simp only [List.map_toArray, List.map_cons, List.map_nil]); first | done | rfl | (simp only [List.length_drop, List.length_take]; rfl)) ?_; (with_reducible refine (addr_ParseP.calls (⟨#[49, 48, 46, 48, 46, 48, 46, 49, 47, 56]⟩ : ByteArray) t133 t134 false _ (HENV.out.below (by repeat (first | (with_reducible first | exact HB.out | apply below_alloc | apply pw_below_drewN | apply below_drew1 | refine below_set ?_ GE132.out) | exact HB.out))) A2.out).mono ?_); rintro e w21 ⟨rfl, hb⟩; refine ⟨_, rfl, ?_⟩; have n0_ := Aside0.mk (blk_below (g := gb132) (o := .cells #[.int .u32 t129, .int .i64 t130] 24 (0, 0)) (by (with_reducible repeat (first | refine blk_drewN ?_ _ | refine blk_drew ?_ | refine blk_alloc ?_ _)); refine blk_put (cs := #[.int .u32 t129, .int .i64 0]) ?_ 1 _ rfl; (with_reducible repeat (first | refine blk_drewN ?_ _ | refine blk_drew ?_ | refine blk_alloc ?_ _)); refine blk_put (cs := #[.int .u32 0, .int .i64 0]) ?_ 0 _ rfl; (with_reducible repeat (first | refine blk_drewN ?_ _ | refine blk_drew ?_ | refine blk_alloc ?_ _)); exact BK132.out) hb); have n1_ := Aside0.mk (below_step (by repeat (first | (with_reducible first | exact HB.out | apply below_alloc | apply pw_below_drewN | apply below_drew1 | refine below_set ?_ GE132.out) | exact HB.out)) hb); clear BK132; clear HB; have BK132 := n0_; have HB := n1_; clear n0_ n1_; (try clear hb); (try clear hb2); (try clear hk); (try clear hi)) | ((with_reducible refine gate_dst (N := 3) rfl ?_); refine box_event ?hg (N := 3) ?hd (cs := #[.int .u32 0, .int .i64 0]) (t := 24) ?hr ?_; (case hd => rfl); (case hg => rfl); (case hr => first | (go_simp; done) | (go_simp; rfl)); intro gb136 hg w22 hbox hb; have n0_ := Aside0.mk (blk_below (g := gb132) (o := .cells #[.int .u32 t129, .int .i64 t130] 24 (0, 0)) (by (with_reducible repeat (first | refine blk_drewN ?_ _ | refine blk_drew ?_ | refine blk_alloc ?_ _)); exact BK132.out) hb); have n1_ := Aside0.mk (below_step (by repeat (first | (with_reducible first | exact HB.out | apply below_alloc | apply pw_below_drewN | apply below_drew1 | refine below_set ?_ GE132.out) | exact HB.out)) hb); have n2_ := Aside0.mk (hbox); have n3_ := Aside0.mk ((by rw [hg]; exact (below_size (by repeat (first | (with_reducible first | exact HB.out | apply below_alloc | apply pw_below_drewN | apply below_drew1 | refine below_set ?_ GE132.out) | exact HB.out))) : w.heap.size ≤ gb136)); have n4_ := Aside0.mk ((by rw [hg]; exact (below_size (by repeat (first | (with_reducible first | exact HB.out | apply below_alloc | apply pw_below_drewN | apply below_drew1 | refine below_set ?_ GE132.out) | exact HB.out))) : w.heap.size ≤ gb136)); have n5_ := Aside0.mk ((by rw [hg]; exact Nat.ne_of_lt (blk_lt (g := gb132) (o := .cells #[.int .u32 t129, .int .i64 t130] 24 (0, 0)) (by (with_reducible repeat (first | refine blk_drewN ?_ _ | refine blk_drew ?_ | refine blk_alloc ?_ _)); exact BK132.out)) : gb132 ≠ gb136)); have n6_ := Aside0.mk ((by rw [hg]; exact Nat.ne_of_gt (blk_lt (g := gb132) (o := .cells #[.int .u32 t129, .int .i64 t130] 24 (0, 0)) (by (with_reducible repeat (first | refine blk_drewN ?_ _ | refine blk_drew ?_ | refine blk_alloc ?_ _)); exact BK132.out)) : gb136 ≠ gb132)); clear BK132; clear HB; have BK132 := n0_; have HB := n1_; have BK136 := n2_; have GW136 := n3_; have GE136 := n4_; have NB132_136 := n5_; have NB136_132 := n6_; clear n0_ n1_ n2_ n3_ n4_ n5_ n6_; clear hb hbox hg; have hnb23 := NB136_132.out; have hnc23 := NB132_136.out; have hcz24_0 : w22.cell? ⟨gb136, 0, none⟩ = some (.int .u32 0) := (blk_cell BK136.out 0).trans rfl; have hcz24_1 : w22.cell? ⟨gb136, 1, none⟩ = some (.int .i64 0) := (blk_cell BK136.out 1).trans rfl; have hfz24_0 := blk_frozen BK136.out 0; have hfz24_1 := blk_frozen BK136.out 1; have hcz25_0 : w22.cell? ⟨gb132, 0, none⟩ = some (.int .u32 t129) := (blk_cell BK132.out 0).trans rfl; have hcz25_1 : w22.cell? ⟨gb132, 1, none⟩ = some (.int .i64 t130) := (blk_cell BK132.out 1).trans rfl; have hfz25_0 := blk_frozen BK132.out 0; have hfz25_1 := blk_frozen BK132.out 1) | (go_at_call 13; (with_reducible refine (addr_TextP.calls t129 t130 t137 _ (HENV.out.below (by repeat (first | (with_reducible first | exact HB.out | apply below_alloc | apply pw_below_drewN | apply below_drew1 | refine below_set ?_ GE132.out | refine below_set ?_ GE136.out) | exact HB.out))) A5.out).mono ?_); rintro e w26 ⟨rfl, hb⟩; have n0_ := Aside0.mk (blk_below (g := gb132) (o := .cells #[.int .u32 t129, .int .i64 t130] 24 (0, 0)) (by (with_reducible repeat (first | refine blk_drewN ?_ _ | refine blk_drew ?_ | refine blk_alloc ?_ _)); refine blk_far ?_ NB132_136.out _; (with_reducible repeat (first | refine blk_drewN ?_ _ | refine blk_drew ?_ | refine blk_alloc ?_ _)); refine blk_far ?_ NB132_136.out _; (with_reducible repeat (first | refine blk_drewN ?_ _ | refine blk_drew ?_ | refine blk_alloc ?_ _)); exact BK132.out) hb); have n1_ := Aside0.mk (blk_below (g := gb136) (o := .cells #[.int .u32 t133, .int .i64 t134] 24 (0, 0)) (by (with_reducible repeat (first | refine blk_drewN ?_ _ | refine blk_drew ?_ | refine blk_alloc ?_ _)); refine blk_put (cs := #[.int .u32 t133, .int .i64 0]) ?_ 1 _ rfl; (with_reducible repeat (first | refine blk_drewN ?_ _ | refine blk_drew ?_ | refine blk_alloc ?_ _)); refine blk_put (cs := #[.int .u32 0, .int .i64 0]) ?_ 0 _ rfl; (with_reducible repeat (first | refine blk_drewN ?_ _ | refine blk_drew ?_ | refine blk_alloc ?_ _)); exact BK136.out) hb); have n2_ := Aside0.mk (below_step (by repeat (first | (with_reducible first | exact HB.out | apply below_alloc | apply pw_below_drewN | apply below_drew1 | refine below_set ?_ GE132.out | refine below_set ?_ GE136.out) | exact HB.out)) hb); clear BK132; clear BK136; clear HB; have BK132 := n0_; have BK136 := n1_; have HB := n2_; clear n0_ n1_ n2_; (try clear hb); (try clear hb2); (try clear hk); (try clear hi)) | (go_at_call 16; (with_reducible refine (addr_Mask.calls 9 t138 _ A17.out).mono ?_); rintro e w27 ⟨rfl, hb⟩; have n0_ := Aside0.mk (blk_below (g := gb132) (o := .cells #[.int .u32 t129, .int .i64 t130] 24 (0, 0)) (by (with_reducible repeat (first | refine blk_drewN ?_ _ | refine blk_drew ?_ | refine blk_alloc ?_ _)); exact BK132.out) hb); have n1_ := Aside0.mk (blk_below (g := gb136) (o := .cells #[.int .u32 t133, .int .i64 t134] 24 (0, 0)) (by (with_reducible repeat (first | refine blk_drewN ?_ _ | refine blk_drew ?_ | refine blk_alloc ?_ _)); exact BK136.out) hb); have n2_ := Aside0.mk (below_step (by repeat (first | (with_reducible first | exact HB.out | apply below_alloc | apply pw_below_drewN | apply below_drew1 | refine below_set ?_ GE132.out | refine below_set ?_ GE136.out) | exact HB.out)) hb); clear BK132; clear BK136; clear HB; have BK132 := n0_; have BK136 := n1_; have HB := n2_; clear n0_ n1_ n2_; (try clear hb); (try clear hb2); (try clear hk); (try clear hi)))
     go_ret
     exact ⟨by first | rfl | (simp [errW_none, errW_some] <;> rfl) | (simp [*, errW_none, errW_some] <;> rfl), by repeat (first | (with_reducible first | exact HB.out | apply below_alloc | apply pw_below_drewN | apply below_drew1 | refine below_set ?_ GE132.out | refine below_set ?_ GE136.out) | exact HB.out)⟩
   ·rw [if_neg c6] at H
    have c6b0 : (t137.toList == ([49, 48, 46, 48, 46, 48, 46, 48, 47, 56] : List UInt8)) = false := beq_eq_false_iff_ne.mpr c6
    have c6b1 : (t137.toList != ([49, 48, 46, 48, 46, 48, 46, 48, 47, 56] : List UInt8)) = true := bne_iff_ne.mpr c6
    obtain rfl := Option.some.inj H
    go_enter Tryd.func15, Tryd.ntmps15
    go_wp2_with (first | ((with_reducible refine gate_callee (f := 12) rfl ?_); refine goesL_ (some 6) rfl rfl Tryd.func12 (by kernel_rfl) rfl #[.string (⟨#[49, 48, 46, 48, 46, 48, 46, 48, 47, 56]⟩ : ByteArray)] rfl (by (try simp only [List.map_toArray, List.map_cons, List.map_nil]); first | done | rfl | (simp only [List.length_drop, List.length_take]; rfl)) ?_; (with_reducible refine (addr_ParseP.calls (⟨#[49, 48, 46, 48, 46, 48, 46, 48, 47, 56]⟩ : ByteArray) t129 t130 true _ (HENV.out.below (by repeat (first | (with_reducible first | exact HB.out | apply below_alloc | apply pw_below_drewN | apply below_drew1) | exact HB.out))) A1.out).mono ?_); rintro e w28 ⟨rfl, hb⟩; refine ⟨_, rfl, ?_⟩; have n0_ := Aside0.mk (below_step (by repeat (first | (with_reducible first | exact HB.out | apply below_alloc | apply pw_below_drewN | apply below_drew1) | exact HB.out)) hb); clear HB; have HB := n0_; clear n0_; (try clear hb); (try clear hb2); (try clear hk); (try clear hi)) | ((with_reducible refine gate_dst (N := 1) rfl ?_); refine box_event ?hg (N := 1) ?hd (cs := #[.int .u32 0, .int .i64 0]) (t := 24) ?hr ?_; (case hd => rfl); (case hg => rfl); (case hr => first | (go_simp; done) | (go_simp; rfl)); intro gb132 hg w29 hbox hb; have n0_ := Aside0.mk (below_step (by repeat (first | (with_reducible first | exact HB.out | apply below_alloc | apply pw_below_drewN | apply below_drew1) | exact HB.out)) hb); have n1_ := Aside0.mk (hbox); have n2_ := Aside0.mk ((by rw [hg]; exact (below_size (by repeat (first | (with_reducible first | exact HB.out | apply below_alloc | apply pw_below_drewN | apply below_drew1) | exact HB.out))) : w.heap.size ≤ gb132)); have n3_ := Aside0.mk ((by rw [hg]; exact (below_size (by repeat (first | (with_reducible first | exact HB.out | apply below_alloc | apply pw_below_drewN | apply below_drew1) | exact HB.out))) : w.heap.size ≤ gb132)); clear HB; have HB := n0_; have BK132 := n1_; have GW132 := n2_; have GE132 := n3_; clear n0_ n1_ n2_ n3_; clear hb hbox hg; have hcz30_0 : w29.cell? ⟨gb132, 0, none⟩ = some (.int .u32 0) := (blk_cell BK132.out 0).trans rfl; have hcz30_1 : w29.cell? ⟨gb132, 1, none⟩ = some (.int .i64 0) := (blk_cell BK132.out 1).trans rfl; have hfz30_0 := blk_frozen BK132.out 0; have hfz30_1 := blk_frozen BK132.out 1) | ((with_reducible refine gate_callee (f := 12) rfl ?_); refine goesL_ (some 10) rfl rfl Tryd.func12 (by kernel_rfl) rfl #[.string (⟨#[49, 48, 46, 48, 46, 48, 46, 49, 47, 56]⟩ : ByteArray)] rfl (by (try simp only [List.map_toArray, List.map_cons, List.map_nil]); first | done | rfl | (simp only [List.length_drop, List.length_take]; rfl)) ?_; (with_reducible refine (addr_ParseP.calls (⟨#[49, 48, 46, 48, 46, 48, 46, 49, 47, 56]⟩ : ByteArray) t133 t134 t135 _ (HENV.out.below (by repeat (first | (with_reducible first | exact HB.out | apply below_alloc | apply pw_below_drewN | apply below_drew1 | refine below_set ?_ GE132.out) | exact HB.out))) A2.out).mono ?_); rintro e w31 ⟨rfl, hb⟩; refine ⟨_, rfl, ?_⟩; have n0_ := Aside0.mk (blk_below (g := gb132) (o := .cells #[.int .u32 t129, .int .i64 t130] 24 (0, 0)) (by (with_reducible repeat (first | refine blk_drewN ?_ _ | refine blk_drew ?_ | refine blk_alloc ?_ _)); refine blk_put (cs := #[.int .u32 t129, .int .i64 0]) ?_ 1 _ rfl; (with_reducible repeat (first | refine blk_drewN ?_ _ | refine blk_drew ?_ | refine blk_alloc ?_ _)); refine blk_put (cs := #[.int .u32 0, .int .i64 0]) ?_ 0 _ rfl; (with_reducible repeat (first | refine blk_drewN ?_ _ | refine blk_drew ?_ | refine blk_alloc ?_ _)); exact BK132.out) hb); have n1_ := Aside0.mk (below_step (by repeat (first | (with_reducible first | exact HB.out | apply below_alloc | apply pw_below_drewN | apply below_drew1 | refine below_set ?_ GE132.out) | exact HB.out)) hb); clear BK132; clear HB; have BK132 := n0_; have HB := n1_; clear n0_ n1_; (try clear hb); (try clear hb2); (try clear hk); (try clear hi)) | ((with_reducible refine gate_dst (N := 3) rfl ?_); refine box_event ?hg (N := 3) ?hd (cs := #[.int .u32 0, .int .i64 0]) (t := 24) ?hr ?_; (case hd => rfl); (case hg => rfl); (case hr => first | (go_simp; done) | (go_simp; rfl)); intro gb136 hg w32 hbox hb; have n0_ := Aside0.mk (blk_below (g := gb132) (o := .cells #[.int .u32 t129, .int .i64 t130] 24 (0, 0)) (by (with_reducible repeat (first | refine blk_drewN ?_ _ | refine blk_drew ?_ | refine blk_alloc ?_ _)); exact BK132.out) hb); have n1_ := Aside0.mk (below_step (by repeat (first | (with_reducible first | exact HB.out | apply below_alloc | apply pw_below_drewN | apply below_drew1 | refine below_set ?_ GE132.out) | exact HB.out)) hb); have n2_ := Aside0.mk (hbox); have n3_ := Aside0.mk ((by rw [hg]; exact (below_size (by repeat (first | (with_reducible first | exact HB.out | apply below_alloc | apply pw_below_drewN | apply below_drew1 | refine below_set ?_ GE132.out) | exact HB.out))) : w.heap.size ≤ gb136)); have n4_ := Aside0.mk ((by rw [hg]; exact (below_size (by repeat (first | (with_reducible first | exact HB.out | apply below_alloc | apply pw_below_drewN | apply below_drew1 | refine below_set ?_ GE132.out) | exact HB.out))) : w.heap.size ≤ gb136)); have n5_ := Aside0.mk ((by rw [hg]; exact Nat.ne_of_lt (blk_lt (g := gb132) (o := .cells #[.int .u32 t129, .int .i64 t130] 24 (0, 0)) (by (with_reducible repeat (first | refine blk_drewN ?_ _ | refine blk_drew ?_ | refine blk_alloc ?_ _)); exact BK132.out)) : gb132 ≠ gb136)); have n6_ := Aside0.mk ((by rw [hg]; exact Nat.ne_of_gt (blk_lt (g := gb132) (o := .cells #[.int .u32 t129, .int .i64 t130] 24 (0, 0)) (by (with_reducible repeat (first | refine blk_drewN ?_ _ | refine blk_drew ?_ | refine blk_alloc ?_ _)); exact BK132.out)) : gb136 ≠ gb132)); clear BK132; clear HB; have BK132 := n0_; have HB := n1_; have BK136 := n2_; have GW136 := n3_; have GE136 := n4_; have NB132_136 := n5_; have NB136_132 := n6_; clear n0_ n1_ n2_ n3_ n4_ n5_ n6_; clear hb hbox hg; have hnb33 := NB136_132.out; have hnc33 := NB132_136.out; have hcz34_0 : w32.cell? ⟨gb136, 0, none⟩ = some (.int .u32 0) := (blk_cell BK136.out 0).trans rfl; have hcz34_1 : w32.cell? ⟨gb136, 1, none⟩ = some (.int .i64 0) := (blk_cell BK136.out 1).trans rfl; have hfz34_0 := blk_frozen BK136.out 0; have hfz34_1 := blk_frozen BK136.out 1; have hcz35_0 : w32.cell? ⟨gb132, 0, none⟩ = some (.int .u32 t129) := (blk_cell BK132.out 0).trans rfl; have hcz35_1 : w32.cell? ⟨gb132, 1, none⟩ = some (.int .i64 t130) := (blk_cell BK132.out 1).trans rfl; have hfz35_0 := blk_frozen BK132.out 0; have hfz35_1 := blk_frozen BK132.out 1) | (go_at_call 13; (with_reducible refine (addr_TextP.calls t129 t130 t137 _ (HENV.out.below (by repeat (first | (with_reducible first | exact HB.out | apply below_alloc | apply pw_below_drewN | apply below_drew1 | refine below_set ?_ GE132.out | refine below_set ?_ GE136.out) | exact HB.out))) A5.out).mono ?_); rintro e w36 ⟨rfl, hb⟩; have n0_ := Aside0.mk (blk_below (g := gb132) (o := .cells #[.int .u32 t129, .int .i64 t130] 24 (0, 0)) (by (with_reducible repeat (first | refine blk_drewN ?_ _ | refine blk_drew ?_ | refine blk_alloc ?_ _)); refine blk_far ?_ NB132_136.out _; (with_reducible repeat (first | refine blk_drewN ?_ _ | refine blk_drew ?_ | refine blk_alloc ?_ _)); refine blk_far ?_ NB132_136.out _; (with_reducible repeat (first | refine blk_drewN ?_ _ | refine blk_drew ?_ | refine blk_alloc ?_ _)); exact BK132.out) hb); have n1_ := Aside0.mk (blk_below (g := gb136) (o := .cells #[.int .u32 t133, .int .i64 t134] 24 (0, 0)) (by (with_reducible repeat (first | refine blk_drewN ?_ _ | refine blk_drew ?_ | refine blk_alloc ?_ _)); refine blk_put (cs := #[.int .u32 t133, .int .i64 0]) ?_ 1 _ rfl; (with_reducible repeat (first | refine blk_drewN ?_ _ | refine blk_drew ?_ | refine blk_alloc ?_ _)); refine blk_put (cs := #[.int .u32 0, .int .i64 0]) ?_ 0 _ rfl; (with_reducible repeat (first | refine blk_drewN ?_ _ | refine blk_drew ?_ | refine blk_alloc ?_ _)); exact BK136.out) hb); have n2_ := Aside0.mk (below_step (by repeat (first | (with_reducible first | exact HB.out | apply below_alloc | apply pw_below_drewN | apply below_drew1 | refine below_set ?_ GE132.out | refine below_set ?_ GE136.out) | exact HB.out)) hb); clear BK132; clear BK136; clear HB; have BK132 := n0_; have BK136 := n1_; have HB := n2_; clear n0_ n1_ n2_; (try clear hb); (try clear hb2); (try clear hk); (try clear hi)))
    go_ret
    exact ⟨by first | rfl | (simp [errW_none, errW_some] <;> rfl) | (simp [*, errW_none, errW_some] <;> rfl), by repeat (first | (with_reducible first | exact HB.out | apply below_alloc | apply pw_below_drewN | apply below_drew1 | refine below_set ?_ GE132.out | refine below_set ?_ GE136.out) | exact HB.out)⟩
  ·rw [if_neg c4] at H
   have c4b0 : (t129 == 167772160 && (t130 == 8)) = false := by simpa using c4
   (try (have c4b1 : decide (t129 = 167772160 && (t130 == 8)) = false := by simpa using c4))
   (try (have c4b2 : (t129 == 167772160 && (t130 == 8)) = false := by simpa using c4))
   (try (have c4b3 : ¬ (t129 = 167772160 && (t130 == 8)) := by simpa using c4))
   clear c4
   obtain rfl := Option.some.inj H
   go_enter Tryd.func15, Tryd.ntmps15
   go_wp2_with (first | ((with_reducible refine gate_callee (f := 12) rfl ?_); refine goesL_ (some 6) rfl rfl Tryd.func12 (by kernel_rfl) rfl #[.string (⟨#[49, 48, 46, 48, 46, 48, 46, 48, 47, 56]⟩ : ByteArray)] rfl (by (try simp only [List.map_toArray, List.map_cons, List.map_nil]); first | done | rfl | (simp only [List.length_drop, List.length_take]; rfl)) ?_; (with_reducible refine (addr_ParseP.calls (⟨#[49, 48, 46, 48, 46, 48, 46, 48, 47, 56]⟩ : ByteArray) t129 t130 true _ (HENV.out.below (by repeat (first | (with_reducible first | exact HB.out | apply below_alloc | apply pw_below_drewN | apply below_drew1) | exact HB.out))) A1.out).mono ?_); rintro e w37 ⟨rfl, hb⟩; refine ⟨_, rfl, ?_⟩; have n0_ := Aside0.mk (below_step (by repeat (first | (with_reducible first | exact HB.out | apply below_alloc | apply pw_below_drewN | apply below_drew1) | exact HB.out)) hb); clear HB; have HB := n0_; clear n0_; (try clear hb); (try clear hb2); (try clear hk); (try clear hi)) | ((with_reducible refine gate_dst (N := 1) rfl ?_); refine box_event ?hg (N := 1) ?hd (cs := #[.int .u32 0, .int .i64 0]) (t := 24) ?hr ?_; (case hd => rfl); (case hg => rfl); (case hr => first | (go_simp; done) | (go_simp; rfl)); intro gb132 hg w38 hbox hb; have n0_ := Aside0.mk (below_step (by repeat (first | (with_reducible first | exact HB.out | apply below_alloc | apply pw_below_drewN | apply below_drew1) | exact HB.out)) hb); have n1_ := Aside0.mk (hbox); have n2_ := Aside0.mk ((by rw [hg]; exact (below_size (by repeat (first | (with_reducible first | exact HB.out | apply below_alloc | apply pw_below_drewN | apply below_drew1) | exact HB.out))) : w.heap.size ≤ gb132)); have n3_ := Aside0.mk ((by rw [hg]; exact (below_size (by repeat (first | (with_reducible first | exact HB.out | apply below_alloc | apply pw_below_drewN | apply below_drew1) | exact HB.out))) : w.heap.size ≤ gb132)); clear HB; have HB := n0_; have BK132 := n1_; have GW132 := n2_; have GE132 := n3_; clear n0_ n1_ n2_ n3_; clear hb hbox hg; have hcz39_0 : w38.cell? ⟨gb132, 0, none⟩ = some (.int .u32 0) := (blk_cell BK132.out 0).trans rfl; have hcz39_1 : w38.cell? ⟨gb132, 1, none⟩ = some (.int .i64 0) := (blk_cell BK132.out 1).trans rfl; have hfz39_0 := blk_frozen BK132.out 0; have hfz39_1 := blk_frozen BK132.out 1) | ((with_reducible refine gate_callee (f := 12) rfl ?_); refine goesL_ (some 10) rfl rfl Tryd.func12 (by kernel_rfl) rfl #[.string (⟨#[49, 48, 46, 48, 46, 48, 46, 49, 47, 56]⟩ : ByteArray)] rfl (by (try simp only [List.map_toArray, List.map_cons, List.map_nil]); first | done | rfl | (simp only [List.length_drop, List.length_take]; rfl)) ?_; (with_reducible refine (addr_ParseP.calls (⟨#[49, 48, 46, 48, 46, 48, 46, 49, 47, 56]⟩ : ByteArray) t133 t134 t135 _ (HENV.out.below (by repeat (first | (with_reducible first | exact HB.out | apply below_alloc | apply pw_below_drewN | apply below_drew1 | refine below_set ?_ GE132.out) | exact HB.out))) A2.out).mono ?_); rintro e w40 ⟨rfl, hb⟩; refine ⟨_, rfl, ?_⟩; have n0_ := Aside0.mk (blk_below (g := gb132) (o := .cells #[.int .u32 t129, .int .i64 t130] 24 (0, 0)) (by (with_reducible repeat (first | refine blk_drewN ?_ _ | refine blk_drew ?_ | refine blk_alloc ?_ _)); refine blk_put (cs := #[.int .u32 t129, .int .i64 0]) ?_ 1 _ rfl; (with_reducible repeat (first | refine blk_drewN ?_ _ | refine blk_drew ?_ | refine blk_alloc ?_ _)); refine blk_put (cs := #[.int .u32 0, .int .i64 0]) ?_ 0 _ rfl; (with_reducible repeat (first | refine blk_drewN ?_ _ | refine blk_drew ?_ | refine blk_alloc ?_ _)); exact BK132.out) hb); have n1_ := Aside0.mk (below_step (by repeat (first | (with_reducible first | exact HB.out | apply below_alloc | apply pw_below_drewN | apply below_drew1 | refine below_set ?_ GE132.out) | exact HB.out)) hb); clear BK132; clear HB; have BK132 := n0_; have HB := n1_; clear n0_ n1_; (try clear hb); (try clear hb2); (try clear hk); (try clear hi)) | ((with_reducible refine gate_dst (N := 3) rfl ?_); refine box_event ?hg (N := 3) ?hd (cs := #[.int .u32 0, .int .i64 0]) (t := 24) ?hr ?_; (case hd => rfl); (case hg => rfl); (case hr => first | (go_simp; done) | (go_simp; rfl)); intro gb136 hg w41 hbox hb; have n0_ := Aside0.mk (blk_below (g := gb132) (o := .cells #[.int .u32 t129, .int .i64 t130] 24 (0, 0)) (by (with_reducible repeat (first | refine blk_drewN ?_ _ | refine blk_drew ?_ | refine blk_alloc ?_ _)); exact BK132.out) hb); have n1_ := Aside0.mk (below_step (by repeat (first | (with_reducible first | exact HB.out | apply below_alloc | apply pw_below_drewN | apply below_drew1 | refine below_set ?_ GE132.out) | exact HB.out)) hb); have n2_ := Aside0.mk (hbox); have n3_ := Aside0.mk ((by rw [hg]; exact (below_size (by repeat (first | (with_reducible first | exact HB.out | apply below_alloc | apply pw_below_drewN | apply below_drew1 | refine below_set ?_ GE132.out) | exact HB.out))) : w.heap.size ≤ gb136)); have n4_ := Aside0.mk ((by rw [hg]; exact (below_size (by repeat (first | (with_reducible first | exact HB.out | apply below_alloc | apply pw_below_drewN | apply below_drew1 | refine below_set ?_ GE132.out) | exact HB.out))) : w.heap.size ≤ gb136)); have n5_ := Aside0.mk ((by rw [hg]; exact Nat.ne_of_lt (blk_lt (g := gb132) (o := .cells #[.int .u32 t129, .int .i64 t130] 24 (0, 0)) (by (with_reducible repeat (first | refine blk_drewN ?_ _ | refine blk_drew ?_ | refine blk_alloc ?_ _)); exact BK132.out)) : gb132 ≠ gb136)); have n6_ := Aside0.mk ((by rw [hg]; exact Nat.ne_of_gt (blk_lt (g := gb132) (o := .cells #[.int .u32 t129, .int .i64 t130] 24 (0, 0)) (by (with_reducible repeat (first | refine blk_drewN ?_ _ | refine blk_drew ?_ | refine blk_alloc ?_ _)); exact BK132.out)) : gb136 ≠ gb132)); clear BK132; clear HB; have BK132 := n0_; have HB := n1_; have BK136 := n2_; have GW136 := n3_; have GE136 := n4_; have NB132_136 := n5_; have NB136_132 := n6_; clear n0_ n1_ n2_ n3_ n4_ n5_ n6_; clear hb hbox hg; have hnb42 := NB136_132.out; have hnc42 := NB132_136.out; have hcz43_0 : w41.cell? ⟨gb136, 0, none⟩ = some (.int .u32 0) := (blk_cell BK136.out 0).trans rfl; have hcz43_1 : w41.cell? ⟨gb136, 1, none⟩ = some (.int .i64 0) := (blk_cell BK136.out 1).trans rfl; have hfz43_0 := blk_frozen BK136.out 0; have hfz43_1 := blk_frozen BK136.out 1; have hcz44_0 : w41.cell? ⟨gb132, 0, none⟩ = some (.int .u32 t129) := (blk_cell BK132.out 0).trans rfl; have hcz44_1 : w41.cell? ⟨gb132, 1, none⟩ = some (.int .i64 t130) := (blk_cell BK132.out 1).trans rfl; have hfz44_0 := blk_frozen BK132.out 0; have hfz44_1 := blk_frozen BK132.out 1))
   go_ret
   exact ⟨by first | rfl | (simp [errW_none, errW_some] <;> rfl) | (simp [*, errW_none, errW_some] <;> rfl), by repeat (first | (with_reducible first | exact HB.out | apply below_alloc | apply pw_below_drewN | apply below_drew1 | refine below_set ?_ GE132.out | refine below_set ?_ GE136.out) | exact HB.out)⟩
 ·replace c3 := Bool.eq_false_iff.mpr c3
  subst c3
  have H1 : (some false) = some r := by rw [if_neg (show ¬ (false = true) by decide)] at H; exact H
  clear H
  have H := H1
  clear H1
  obtain rfl := Option.some.inj H
  go_enter Tryd.func15, Tryd.ntmps15
  go_wp2_with (first | ((with_reducible refine gate_callee (f := 12) rfl ?_); refine goesL_ (some 6) rfl rfl Tryd.func12 (by kernel_rfl) rfl #[.string (⟨#[49, 48, 46, 48, 46, 48, 46, 48, 47, 56]⟩ : ByteArray)] rfl (by (try simp only [List.map_toArray, List.map_cons, List.map_nil]); first | done | rfl | (simp only [List.length_drop, List.length_take]; rfl)) ?_; (with_reducible refine (addr_ParseP.calls (⟨#[49, 48, 46, 48, 46, 48, 46, 48, 47, 56]⟩ : ByteArray) t129 t130 false _ (HENV.out.below (by repeat (first | (with_reducible first | exact HB.out | apply below_alloc | apply pw_below_drewN | apply below_drew1) | exact HB.out))) A1.out).mono ?_); rintro e w45 ⟨rfl, hb⟩; refine ⟨_, rfl, ?_⟩; have n0_ := Aside0.mk (below_step (by repeat (first | (with_reducible first | exact HB.out | apply below_alloc | apply pw_below_drewN | apply below_drew1) | exact HB.out)) hb); clear HB; have HB := n0_; clear n0_; (try clear hb); (try clear hb2); (try clear hk); (try clear hi)) | ((with_reducible refine gate_dst (N := 1) rfl ?_); refine box_event ?hg (N := 1) ?hd (cs := #[.int .u32 0, .int .i64 0]) (t := 24) ?hr ?_; (case hd => rfl); (case hg => rfl); (case hr => first | (go_simp; done) | (go_simp; rfl)); intro gb132 hg w46 hbox hb; have n0_ := Aside0.mk (below_step (by repeat (first | (with_reducible first | exact HB.out | apply below_alloc | apply pw_below_drewN | apply below_drew1) | exact HB.out)) hb); have n1_ := Aside0.mk (hbox); have n2_ := Aside0.mk ((by rw [hg]; exact (below_size (by repeat (first | (with_reducible first | exact HB.out | apply below_alloc | apply pw_below_drewN | apply below_drew1) | exact HB.out))) : w.heap.size ≤ gb132)); have n3_ := Aside0.mk ((by rw [hg]; exact (below_size (by repeat (first | (with_reducible first | exact HB.out | apply below_alloc | apply pw_below_drewN | apply below_drew1) | exact HB.out))) : w.heap.size ≤ gb132)); clear HB; have HB := n0_; have BK132 := n1_; have GW132 := n2_; have GE132 := n3_; clear n0_ n1_ n2_ n3_; clear hb hbox hg; have hcz47_0 : w46.cell? ⟨gb132, 0, none⟩ = some (.int .u32 0) := (blk_cell BK132.out 0).trans rfl; have hcz47_1 : w46.cell? ⟨gb132, 1, none⟩ = some (.int .i64 0) := (blk_cell BK132.out 1).trans rfl; have hfz47_0 := blk_frozen BK132.out 0; have hfz47_1 := blk_frozen BK132.out 1) | ((with_reducible refine gate_callee (f := 12) rfl ?_); refine goesL_ (some 10) rfl rfl Tryd.func12 (by kernel_rfl) rfl #[.string (⟨#[49, 48, 46, 48, 46, 48, 46, 49, 47, 56]⟩ : ByteArray)] rfl (by (try simp only [List.map_toArray, List.map_cons, List.map_nil]); first | done | rfl | (simp only [List.length_drop, List.length_take]; rfl)) ?_; (with_reducible refine (addr_ParseP.calls (⟨#[49, 48, 46, 48, 46, 48, 46, 49, 47, 56]⟩ : ByteArray) t133 t134 t135 _ (HENV.out.below (by repeat (first | (with_reducible first | exact HB.out | apply below_alloc | apply pw_below_drewN | apply below_drew1 | refine below_set ?_ GE132.out) | exact HB.out))) A2.out).mono ?_); rintro e w48 ⟨rfl, hb⟩; refine ⟨_, rfl, ?_⟩; have n0_ := Aside0.mk (blk_below (g := gb132) (o := .cells #[.int .u32 t129, .int .i64 t130] 24 (0, 0)) (by (with_reducible repeat (first | refine blk_drewN ?_ _ | refine blk_drew ?_ | refine blk_alloc ?_ _)); refine blk_put (cs := #[.int .u32 t129, .int .i64 0]) ?_ 1 _ rfl; (with_reducible repeat (first | refine blk_drewN ?_ _ | refine blk_drew ?_ | refine blk_alloc ?_ _)); refine blk_put (cs := #[.int .u32 0, .int .i64 0]) ?_ 0 _ rfl; (with_reducible repeat (first | refine blk_drewN ?_ _ | refine blk_drew ?_ | refine blk_alloc ?_ _)); exact BK132.out) hb); have n1_ := Aside0.mk (below_step (by repeat (first | (with_reducible first | exact HB.out | apply below_alloc | apply pw_below_drewN | apply below_drew1 | refine below_set ?_ GE132.out) | exact HB.out)) hb); clear BK132; clear HB; have BK132 := n0_; have HB := n1_; clear n0_ n1_; (try clear hb); (try clear hb2); (try clear hk); (try clear hi)) | ((with_reducible refine gate_dst (N := 3) rfl ?_); refine box_event ?hg (N := 3) ?hd (cs := #[.int .u32 0, .int .i64 0]) (t := 24) ?hr ?_; (case hd => rfl); (case hg => rfl); (case hr => first | (go_simp; done) | (go_simp; rfl)); intro gb136 hg w49 hbox hb; have n0_ := Aside0.mk (blk_below (g := gb132) (o := .cells #[.int .u32 t129, .int .i64 t130] 24 (0, 0)) (by (with_reducible repeat (first | refine blk_drewN ?_ _ | refine blk_drew ?_ | refine blk_alloc ?_ _)); exact BK132.out) hb); have n1_ := Aside0.mk (below_step (by repeat (first | (with_reducible first | exact HB.out | apply below_alloc | apply pw_below_drewN | apply below_drew1 | refine below_set ?_ GE132.out) | exact HB.out)) hb); have n2_ := Aside0.mk (hbox); have n3_ := Aside0.mk ((by rw [hg]; exact (below_size (by repeat (first | (with_reducible first | exact HB.out | apply below_alloc | apply pw_below_drewN | apply below_drew1 | refine below_set ?_ GE132.out) | exact HB.out))) : w.heap.size ≤ gb136)); have n4_ := Aside0.mk ((by rw [hg]; exact (below_size (by repeat (first | (with_reducible first | exact HB.out | apply below_alloc | apply pw_below_drewN | apply below_drew1 | refine below_set ?_ GE132.out) | exact HB.out))) : w.heap.size ≤ gb136)); have n5_ := Aside0.mk ((by rw [hg]; exact Nat.ne_of_lt (blk_lt (g := gb132) (o := .cells #[.int .u32 t129, .int .i64 t130] 24 (0, 0)) (by (with_reducible repeat (first | refine blk_drewN ?_ _ | refine blk_drew ?_ | refine blk_alloc ?_ _)); exact BK132.out)) : gb132 ≠ gb136)); have n6_ := Aside0.mk ((by rw [hg]; exact Nat.ne_of_gt (blk_lt (g := gb132) (o := .cells #[.int .u32 t129, .int .i64 t130] 24 (0, 0)) (by (with_reducible repeat (first | refine blk_drewN ?_ _ | refine blk_drew ?_ | refine blk_alloc ?_ _)); exact BK132.out)) : gb136 ≠ gb132)); clear BK132; clear HB; have BK132 := n0_; have HB := n1_; have BK136 := n2_; have GW136 := n3_; have GE136 := n4_; have NB132_136 := n5_; have NB136_132 := n6_; clear n0_ n1_ n2_ n3_ n4_ n5_ n6_; clear hb hbox hg; have hnb50 := NB136_132.out; have hnc50 := NB132_136.out; have hcz51_0 : w49.cell? ⟨gb136, 0, none⟩ = some (.int .u32 0) := (blk_cell BK136.out 0).trans rfl; have hcz51_1 : w49.cell? ⟨gb136, 1, none⟩ = some (.int .i64 0) := (blk_cell BK136.out 1).trans rfl; have hfz51_0 := blk_frozen BK136.out 0; have hfz51_1 := blk_frozen BK136.out 1))
  go_ret
  exact ⟨by first | rfl | (simp [errW_none, errW_some] <;> rfl) | (simp [*, errW_none, errW_some] <;> rfl), by repeat (first | (with_reducible first | exact HB.out | apply below_alloc | apply pw_below_drewN | apply below_drew1 | refine below_set ?_ GE132.out | refine below_set ?_ GE136.out) | exact HB.out)⟩
end Go.Proofs.YtokfgajfkopelaaDoor.BP
namespace Go.Proofs.YtokfgajfkopelaaDoor.Mine
open Go.RowKit Go.Proofs.YtokfgajfkopelaaDoorW.PrintWords Go.Proofs.YtokfgajfkopelaaDoorW.PrintLast Go.Proofs.YtokfgajfkopelaaDoorW.PrintMore
set_option maxRecDepth 100000 in
theorem known_f : BP.signpostlaw1_known.f = some true := by decide +kernel
end Go.Proofs.YtokfgajfkopelaaDoor.Mine
namespace Go.Proofs.YtokfgajfkopelaaDoor.Mine
open Go.RowKit Go.Proofs.YtokfgajfkopelaaDoorW.PrintWords Go.Proofs.YtokfgajfkopelaaDoorW.PrintLast Go.Proofs.YtokfgajfkopelaaDoorW.PrintMore
set_option linter.unusedVariables false
set_option linter.unusedSimpArgs false
theorem rune_digit (x : Int) (h0 : 0 ≤ x) (h1 : x < 10) : Utf8.encode (48 + x) = decS x := by
  have h : ∀ j, j < 10 → Utf8.encode (48 + ((j : Nat) : Int)) = decS ((j : Nat) : Int) := by decide +kernel
  obtain ⟨j, rfl⟩ := Int.eq_ofNat_of_zero_le h0
  exact h j (by omega)
theorem decS_more (x : Int) (h0 : 10 ≤ x) : decS (x / 10) ++ decS (x % 10) = decS x := by
  obtain ⟨j, rfl⟩ := Int.eq_ofNat_of_zero_le (show 0 ≤ x by omega)
  have e : Lib.decDigits j = Lib.decDigits (j / 10) ++ [UInt8.ofNat (48 + j % 10)] := by
    rw [Lib.decDigits, dif_neg (by omega)]
  have e2 : Lib.decDigits (j % 10) = [UInt8.ofNat (48 + j % 10)] := by
    rw [Lib.decDigits, dif_pos (by omega)]
  unfold decS Lib.itoa
  rw [if_neg (by omega), if_neg (by omega), if_neg (by omega)]
  have t1 : ((j : Int) / 10).toNat = j / 10 := by omega
  have t2 : ((j : Int) % 10).toNat = j % 10 := by omega
  rw [t1, t2, Int.toNat_natCast, e2]
  conv => rhs; rw [e]
  apply ByteArray.ext
  rw [ByteArray.data_append]
  simp
theorem dec_short3 (x : Int) (h0 : 0 ≤ x) (h1 : x ≤ 255) : (decS x).size ≤ 3 := dec_short x h0 h1
set_option maxRecDepth 100000 in
set_option maxHeartbeats 3200000 in
theorem digits_any : ∀ (d : Nat) (n : Int), 0 ≤ n → n ≤ 255 → n < 10 ^ (d + 1) → ∀ (w : World), Calls Tryd.prog 43 #[.int .i64 n] w fun e w' => e = .returned (.string (decS n)) ∧ Below w.heap.size w w' := by
  intro d
  induction d with
  | zero =>
    intro n h0 h1 hd w
    have hlt : n < 10 := by simpa using hd
    have HD := Aside0.mk (rune_digit n h0 hlt)
    have e1 : Int.tmod n 10 = n := by rw [Int.tmod_eq_emod_of_nonneg h0]; omega
    have w1 : wrap64 (48 + n) = 48 + n := wrap64_id _ (by omega) (by omega)
    have w2 : IntKind.i32.wrap (48 + n) = 48 + n := by rw [IntKind.wrap_i32]; omega
    have hge : ¬ (n ≥ 10) := by omega
    go_enter Tryd.func43, Tryd.ntmps43
    go_wp2
    go_ret
    exact ⟨by rw [HD.out]; rfl, Below.refl _ _⟩
  | succ d ih =>
    intro n h0 h1 hd w
    by_cases hlt : n < 10
    · exact ih n h0 h1 (by have : (10 : Int) ^ (d + 1) ≥ 10 := by rw [Int.pow_succ]; have : (0 : Int) < 10 ^ d := Int.pow_pos (by decide); omega
                           omega) w
    · have HM := Aside0.mk (decS_more n (by omega))
      have HD := Aside0.mk (rune_digit (n % 10) (by omega) (by omega))
      have e1 : Int.tmod n 10 = n % 10 := Int.tmod_eq_emod_of_nonneg h0
      have e2 : Int.tdiv n 10 = n / 10 := Int.tdiv_eq_ediv_of_nonneg h0
      have w1 : wrap64 (48 + n % 10) = 48 + n % 10 := wrap64_id _ (by omega) (by omega)
      have w2 : IntKind.i32.wrap (48 + n % 10) = 48 + n % 10 := by rw [IntKind.wrap_i32]; omega
      have hge : 10 ≤ n := by omega
      have h2 : ¬ ((decS (n / 10)).size + (Utf8.encode (48 + n % 10)).size > 9223372036854775807) := by
        rw [HD.out]
        have := dec_short3 (n / 10) (by omega) (by omega)
        have := dec_short3 (n % 10) (by omega) (by omega)
        omega
      have hih := Aside0.mk (ih (n / 10) (by omega) (by omega) (by rw [Int.pow_succ] at hd; omega))
      clear ih hd
      go_enter Tryd.func43, Tryd.ntmps43
      go_wp2_with (go_at_call 43; go_loud (refine (hih.out _).mono ?_; rintro e w1 ⟨rfl, hb1⟩))
      go_ret
      exact ⟨by rw [HD.out, HM.out]; rfl, hb1⟩
theorem digits_255 (n : Int) (h0 : 0 ≤ n) (h1 : n ≤ 255) (w : World) : Calls Tryd.prog 43 #[.int .i64 n] w fun e w' => e = .returned (.string (decS n)) ∧ Below w.heap.size w w' := digits_any 2 n h0 h1 (by omega) w
end Go.Proofs.YtokfgajfkopelaaDoor.Mine
namespace Go.Proofs.YtokfgajfkopelaaDoor.BP
open Go.RowKit Go.Proofs.YtokfgajfkopelaaDoor.Mine Go.Proofs.YtokfgajfkopelaaDoorW.PrintWords Go.Proofs.YtokfgajfkopelaaDoorW.PrintLast Go.Proofs.YtokfgajfkopelaaDoorW.PrintMore
set_option linter.unusedVariables false
def signpostref1_digits.f (k : Nat) (n : Int) : Option ByteArray := if 0 ≤ n ∧ n ≤ 255 then some (decS n) else none
theorem signpostref1_digits.calls (k : Nat) (a0 : Int) (r : ByteArray) (w : World) (h : signpostref1_digits.f k a0 = some r) :
    Calls Tryd.prog 43 #[.int .i64 a0] w fun e w' => e = .returned (.string r) ∧ Below w.heap.size w w' := by
  unfold signpostref1_digits.f at h
  split at h
  · rename_i hs
    injection h with h
    subst h
    exact digits_255 a0 hs.1 hs.2 w
  · exact absurd h (by simp)
end Go.Proofs.YtokfgajfkopelaaDoor.BP
namespace Go.Proofs.YtokfgajfkopelaaDoor.BP
open Go.Proofs.YtokfgajfkopelaaDoor.Mine
open Go.RowKit Go.Proofs.YtokfgajfkopelaaDoorW.PrintWords Go.Proofs.YtokfgajfkopelaaDoorW.PrintLast Go.Proofs.YtokfgajfkopelaaDoorW.PrintMore
attribute [local go_sem] max2_int min2_int max_two min_two max_three min_three max_four min_four
set_option linter.unusedVariables false
set_option linter.unusedSimpArgs false
def signpostref1_Text.f (k : Nat) (a0_0 : Int) (a0_1 : Int) : Option (ByteArray) := (signpostref1_Right.f k a0_0 a0_1).bind fun t105 => (if t105 = true then ((signpostref1_digits.f k (wrap64 (a0_0 / 16777216))).bind fun t106 => (if t106.size + 1 ≤ 9223372036854775807 then ((signpostref1_digits.f k (wrap64 (Go.bits .and .u32 (a0_0 / 65536) 255))).bind fun t107 => (if (t106 ++ (⟨#[46]⟩ : ByteArray)).size + t107.size ≤ 9223372036854775807 then (if ((t106 ++ (⟨#[46]⟩ : ByteArray)) ++ t107).size + 1 ≤ 9223372036854775807 then ((signpostref1_digits.f k (wrap64 (Go.bits .and .u32 (a0_0 / 256) 255))).bind fun t108 => (if (((t106 ++ (⟨#[46]⟩ : ByteArray)) ++ t107) ++ (⟨#[46]⟩ : ByteArray)).size + t108.size ≤ 9223372036854775807 then (if ((((t106 ++ (⟨#[46]⟩ : ByteArray)) ++ t107) ++ (⟨#[46]⟩ : ByteArray)) ++ t108).size + 1 ≤ 9223372036854775807 then ((signpostref1_digits.f k (wrap64 (Go.bits .and .u32 a0_0 255))).bind fun t109 => (if (((((t106 ++ (⟨#[46]⟩ : ByteArray)) ++ t107) ++ (⟨#[46]⟩ : ByteArray)) ++ t108) ++ (⟨#[46]⟩ : ByteArray)).size + t109.size ≤ 9223372036854775807 then (if ((((((t106 ++ (⟨#[46]⟩ : ByteArray)) ++ t107) ++ (⟨#[46]⟩ : ByteArray)) ++ t108) ++ (⟨#[46]⟩ : ByteArray)) ++ t109).size + 1 ≤ 9223372036854775807 then ((signpostref1_digits.f k a0_1).bind fun t110 => (if (((((((t106 ++ (⟨#[46]⟩ : ByteArray)) ++ t107) ++ (⟨#[46]⟩ : ByteArray)) ++ t108) ++ (⟨#[46]⟩ : ByteArray)) ++ t109) ++ (⟨#[47]⟩ : ByteArray)).size + t110.size ≤ 9223372036854775807 then (some ((((((((t106 ++ (⟨#[46]⟩ : ByteArray)) ++ t107) ++ (⟨#[46]⟩ : ByteArray)) ++ t108) ++ (⟨#[46]⟩ : ByteArray)) ++ t109) ++ (⟨#[47]⟩ : ByteArray)) ++ t110)) else (none))) else (none)) else (none))) else (none)) else (none))) else (none)) else (none))) else (none))) else (some (⟨#[]⟩ : ByteArray)))
def signpostref1_Text.T3 : Bool × List (List Nat × List Nat) := (true, [([], []), ([0], [0]), ([1], [1]), ([2], [2]), ([3], [3]), ([4], [4]), ([], []), ([6], [6]), ([7], [7]), ([8], [8]), ([9], [9]), ([10, 4], [10]), ([5, 11], [5, 11]), ([12], [12]), ([], []), ([14], [14]), ([15], [15]), ([16], [16]), ([17], [17]), ([18, 11], [18]), ([13, 19], [13, 19]), ([20], [20]), ([], []), ([22], [22]), ([23], [23]), ([24], [24]), ([25, 19], [25]), ([21, 26], [21, 26]), ([27], [27]), ([], []), ([29], [29]), ([30, 26], [30]), ([28, 31], [28, 31]), ([32, 31, 0, 1, 2, 3, 4, 5, 6, 7, 8, 9, 10, 11, 12, 13, 14, 15, 16, 17, 18, 19, 20, 21, 22, 23, 24, 25, 26, 27, 28, 29, 30, 31, 32], [32])])
def signpostref1_Text.B3 : List Nat := [0, 1, 3, 7, 15, 31, 0, 64, 192, 448, 960, 2015, 4095, 8191, 0, 16384, 49152, 114688, 245760, 511967, 1048575, 2097151, 0, 4194304, 12582912, 29360128, 63950815, 134217727, 268435455, 0, 536870912, 1741672415, 4294967295, 8589934591]
theorem signpostref1_Text.tab3 : rtab .any (opsOf Tryd.f28 3) = signpostref1_Text.T3 := by kernel_rfl
theorem signpostref1_Text.bits3 : waitsOk signpostref1_Text.T3.2 signpostref1_Text.B3 = true := by kernel_rfl
set_option maxHeartbeats 8000000 in
set_option maxRecDepth 100000 in
theorem signpostref1_Text.calls (k : Nat) (a0_0 : Int) (a0_1 : Int) (r : ByteArray) (w : World) (h : signpostref1_Text.f k a0_0 a0_1 = some r) :
 Calls Tryd.prog 28 #[.agg #[.int .u32 a0_0, .int .i64 a0_1]] w fun e w' => e = .returned (.string r) ∧ Below w.heap.size w w' := by
 have hu24 := Tryd.underlying24
 have HB := Aside0.mk (Below.refl w.heap.size w)
 have H : ((signpostref1_Right.f k a0_0 a0_1).bind fun t105 => (if t105 = true then ((signpostref1_digits.f k (wrap64 (a0_0 / 16777216))).bind fun t106 => (if t106.size + 1 ≤ 9223372036854775807 then ((signpostref1_digits.f k (wrap64 (Go.bits .and .u32 (a0_0 / 65536) 255))).bind fun t107 => (if (t106 ++ (⟨#[46]⟩ : ByteArray)).size + t107.size ≤ 9223372036854775807 then (if ((t106 ++ (⟨#[46]⟩ : ByteArray)) ++ t107).size + 1 ≤ 9223372036854775807 then ((signpostref1_digits.f k (wrap64 (Go.bits .and .u32 (a0_0 / 256) 255))).bind fun t108 => (if (((t106 ++ (⟨#[46]⟩ : ByteArray)) ++ t107) ++ (⟨#[46]⟩ : ByteArray)).size + t108.size ≤ 9223372036854775807 then (if ((((t106 ++ (⟨#[46]⟩ : ByteArray)) ++ t107) ++ (⟨#[46]⟩ : ByteArray)) ++ t108).size + 1 ≤ 9223372036854775807 then ((signpostref1_digits.f k (wrap64 (Go.bits .and .u32 a0_0 255))).bind fun t109 => (if (((((t106 ++ (⟨#[46]⟩ : ByteArray)) ++ t107) ++ (⟨#[46]⟩ : ByteArray)) ++ t108) ++ (⟨#[46]⟩ : ByteArray)).size + t109.size ≤ 9223372036854775807 then (if ((((((t106 ++ (⟨#[46]⟩ : ByteArray)) ++ t107) ++ (⟨#[46]⟩ : ByteArray)) ++ t108) ++ (⟨#[46]⟩ : ByteArray)) ++ t109).size + 1 ≤ 9223372036854775807 then ((signpostref1_digits.f k a0_1).bind fun t110 => (if (((((((t106 ++ (⟨#[46]⟩ : ByteArray)) ++ t107) ++ (⟨#[46]⟩ : ByteArray)) ++ t108) ++ (⟨#[46]⟩ : ByteArray)) ++ t109) ++ (⟨#[47]⟩ : ByteArray)).size + t110.size ≤ 9223372036854775807 then (some ((((((((t106 ++ (⟨#[46]⟩ : ByteArray)) ++ t107) ++ (⟨#[46]⟩ : ByteArray)) ++ t108) ++ (⟨#[46]⟩ : ByteArray)) ++ t109) ++ (⟨#[47]⟩ : ByteArray)) ++ t110)) else (none))) else (none)) else (none))) else (none)) else (none))) else (none)) else (none))) else (none))) else (some (⟨#[]⟩ : ByteArray)))) = some r := h
 clear h
 replace H := Option.bind_eq_some_iff.mp H
 obtain ⟨t105, A20, H⟩ := H
 replace H : (if t105 = true then ((signpostref1_digits.f k (wrap64 (a0_0 / 16777216))).bind fun t106 => (if t106.size + 1 ≤ 9223372036854775807 then ((signpostref1_digits.f k (wrap64 (Go.bits .and .u32 (a0_0 / 65536) 255))).bind fun t107 => (if (t106 ++ (⟨#[46]⟩ : ByteArray)).size + t107.size ≤ 9223372036854775807 then (if ((t106 ++ (⟨#[46]⟩ : ByteArray)) ++ t107).size + 1 ≤ 9223372036854775807 then ((signpostref1_digits.f k (wrap64 (Go.bits .and .u32 (a0_0 / 256) 255))).bind fun t108 => (if (((t106 ++ (⟨#[46]⟩ : ByteArray)) ++ t107) ++ (⟨#[46]⟩ : ByteArray)).size + t108.size ≤ 9223372036854775807 then (if ((((t106 ++ (⟨#[46]⟩ : ByteArray)) ++ t107) ++ (⟨#[46]⟩ : ByteArray)) ++ t108).size + 1 ≤ 9223372036854775807 then ((signpostref1_digits.f k (wrap64 (Go.bits .and .u32 a0_0 255))).bind fun t109 => (if (((((t106 ++ (⟨#[46]⟩ : ByteArray)) ++ t107) ++ (⟨#[46]⟩ : ByteArray)) ++ t108) ++ (⟨#[46]⟩ : ByteArray)).size + t109.size ≤ 9223372036854775807 then (if ((((((t106 ++ (⟨#[46]⟩ : ByteArray)) ++ t107) ++ (⟨#[46]⟩ : ByteArray)) ++ t108) ++ (⟨#[46]⟩ : ByteArray)) ++ t109).size + 1 ≤ 9223372036854775807 then ((signpostref1_digits.f k a0_1).bind fun t110 => (if (((((((t106 ++ (⟨#[46]⟩ : ByteArray)) ++ t107) ++ (⟨#[46]⟩ : ByteArray)) ++ t108) ++ (⟨#[46]⟩ : ByteArray)) ++ t109) ++ (⟨#[47]⟩ : ByteArray)).size + t110.size ≤ 9223372036854775807 then (some ((((((((t106 ++ (⟨#[46]⟩ : ByteArray)) ++ t107) ++ (⟨#[46]⟩ : ByteArray)) ++ t108) ++ (⟨#[46]⟩ : ByteArray)) ++ t109) ++ (⟨#[47]⟩ : ByteArray)) ++ t110)) else (none))) else (none)) else (none))) else (none)) else (none))) else (none)) else (none))) else (none))) else (some (⟨#[]⟩ : ByteArray))) = some r := H
 have A2 := Aside0.mk A20
 clear A20
 by_cases c3 : t105 = true
 ·subst c3
  have H1 : ((signpostref1_digits.f k (wrap64 (a0_0 / 16777216))).bind fun t106 => (if t106.size + 1 ≤ 9223372036854775807 then ((signpostref1_digits.f k (wrap64 (Go.bits .and .u32 (a0_0 / 65536) 255))).bind fun t107 => (if (t106 ++ (⟨#[46]⟩ : ByteArray)).size + t107.size ≤ 9223372036854775807 then (if ((t106 ++ (⟨#[46]⟩ : ByteArray)) ++ t107).size + 1 ≤ 9223372036854775807 then ((signpostref1_digits.f k (wrap64 (Go.bits .and .u32 (a0_0 / 256) 255))).bind fun t108 => (if (((t106 ++ (⟨#[46]⟩ : ByteArray)) ++ t107) ++ (⟨#[46]⟩ : ByteArray)).size + t108.size ≤ 9223372036854775807 then (if ((((t106 ++ (⟨#[46]⟩ : ByteArray)) ++ t107) ++ (⟨#[46]⟩ : ByteArray)) ++ t108).size + 1 ≤ 9223372036854775807 then ((signpostref1_digits.f k (wrap64 (Go.bits .and .u32 a0_0 255))).bind fun t109 => (if (((((t106 ++ (⟨#[46]⟩ : ByteArray)) ++ t107) ++ (⟨#[46]⟩ : ByteArray)) ++ t108) ++ (⟨#[46]⟩ : ByteArray)).size + t109.size ≤ 9223372036854775807 then (if ((((((t106 ++ (⟨#[46]⟩ : ByteArray)) ++ t107) ++ (⟨#[46]⟩ : ByteArray)) ++ t108) ++ (⟨#[46]⟩ : ByteArray)) ++ t109).size + 1 ≤ 9223372036854775807 then ((signpostref1_digits.f k a0_1).bind fun t110 => (if (((((((t106 ++ (⟨#[46]⟩ : ByteArray)) ++ t107) ++ (⟨#[46]⟩ : ByteArray)) ++ t108) ++ (⟨#[46]⟩ : ByteArray)) ++ t109) ++ (⟨#[47]⟩ : ByteArray)).size + t110.size ≤ 9223372036854775807 then (some ((((((((t106 ++ (⟨#[46]⟩ : ByteArray)) ++ t107) ++ (⟨#[46]⟩ : ByteArray)) ++ t108) ++ (⟨#[46]⟩ : ByteArray)) ++ t109) ++ (⟨#[47]⟩ : ByteArray)) ++ t110)) else (none))) else (none)) else (none))) else (none)) else (none))) else (none)) else (none))) else (none))) = some r := by rw [if_pos rfl] at H; exact H
  clear H
  have H := H1
  clear H1
  replace H := Option.bind_eq_some_iff.mp H
  obtain ⟨t106, A40, H⟩ := H
  replace H : (if t106.size + 1 ≤ 9223372036854775807 then ((signpostref1_digits.f k (wrap64 (Go.bits .and .u32 (a0_0 / 65536) 255))).bind fun t107 => (if (t106 ++ (⟨#[46]⟩ : ByteArray)).size + t107.size ≤ 9223372036854775807 then (if ((t106 ++ (⟨#[46]⟩ : ByteArray)) ++ t107).size + 1 ≤ 9223372036854775807 then ((signpostref1_digits.f k (wrap64 (Go.bits .and .u32 (a0_0 / 256) 255))).bind fun t108 => (if (((t106 ++ (⟨#[46]⟩ : ByteArray)) ++ t107) ++ (⟨#[46]⟩ : ByteArray)).size + t108.size ≤ 9223372036854775807 then (if ((((t106 ++ (⟨#[46]⟩ : ByteArray)) ++ t107) ++ (⟨#[46]⟩ : ByteArray)) ++ t108).size + 1 ≤ 9223372036854775807 then ((signpostref1_digits.f k (wrap64 (Go.bits .and .u32 a0_0 255))).bind fun t109 => (if (((((t106 ++ (⟨#[46]⟩ : ByteArray)) ++ t107) ++ (⟨#[46]⟩ : ByteArray)) ++ t108) ++ (⟨#[46]⟩ : ByteArray)).size + t109.size ≤ 9223372036854775807 then (if ((((((t106 ++ (⟨#[46]⟩ : ByteArray)) ++ t107) ++ (⟨#[46]⟩ : ByteArray)) ++ t108) ++ (⟨#[46]⟩ : ByteArray)) ++ t109).size + 1 ≤ 9223372036854775807 then ((signpostref1_digits.f k a0_1).bind fun t110 => (if (((((((t106 ++ (⟨#[46]⟩ : ByteArray)) ++ t107) ++ (⟨#[46]⟩ : ByteArray)) ++ t108) ++ (⟨#[46]⟩ : ByteArray)) ++ t109) ++ (⟨#[47]⟩ : ByteArray)).size + t110.size ≤ 9223372036854775807 then (some ((((((((t106 ++ (⟨#[46]⟩ : ByteArray)) ++ t107) ++ (⟨#[46]⟩ : ByteArray)) ++ t108) ++ (⟨#[46]⟩ : ByteArray)) ++ t109) ++ (⟨#[47]⟩ : ByteArray)) ++ t110)) else (none))) else (none)) else (none))) else (none)) else (none))) else (none)) else (none))) else (none)) = some r := H
  have A4 := Aside0.mk A40
  clear A40
  by_cases c5 : t106.size + 1 ≤ 9223372036854775807
  ·rw [if_pos c5] at H
   have c5b0 := eq_true c5
   have c5b1 : decide (t106.size + 1 ≤ 9223372036854775807) = true := decide_eq_true c5
   try have c5b2 : (9223372036854775807 < t106.size + 1) = False := eq_false (Nat.not_lt.2 c5)
   replace H := Option.bind_eq_some_iff.mp H
   obtain ⟨t107, A60, H⟩ := H
   replace H : (if (t106 ++ (⟨#[46]⟩ : ByteArray)).size + t107.size ≤ 9223372036854775807 then (if ((t106 ++ (⟨#[46]⟩ : ByteArray)) ++ t107).size + 1 ≤ 9223372036854775807 then ((signpostref1_digits.f k (wrap64 (Go.bits .and .u32 (a0_0 / 256) 255))).bind fun t108 => (if (((t106 ++ (⟨#[46]⟩ : ByteArray)) ++ t107) ++ (⟨#[46]⟩ : ByteArray)).size + t108.size ≤ 9223372036854775807 then (if ((((t106 ++ (⟨#[46]⟩ : ByteArray)) ++ t107) ++ (⟨#[46]⟩ : ByteArray)) ++ t108).size + 1 ≤ 9223372036854775807 then ((signpostref1_digits.f k (wrap64 (Go.bits .and .u32 a0_0 255))).bind fun t109 => (if (((((t106 ++ (⟨#[46]⟩ : ByteArray)) ++ t107) ++ (⟨#[46]⟩ : ByteArray)) ++ t108) ++ (⟨#[46]⟩ : ByteArray)).size + t109.size ≤ 9223372036854775807 then (if ((((((t106 ++ (⟨#[46]⟩ : ByteArray)) ++ t107) ++ (⟨#[46]⟩ : ByteArray)) ++ t108) ++ (⟨#[46]⟩ : ByteArray)) ++ t109).size + 1 ≤ 9223372036854775807 then ((signpostref1_digits.f k a0_1).bind fun t110 => (if (((((((t106 ++ (⟨#[46]⟩ : ByteArray)) ++ t107) ++ (⟨#[46]⟩ : ByteArray)) ++ t108) ++ (⟨#[46]⟩ : ByteArray)) ++ t109) ++ (⟨#[47]⟩ : ByteArray)).size + t110.size ≤ 9223372036854775807 then (some ((((((((t106 ++ (⟨#[46]⟩ : ByteArray)) ++ t107) ++ (⟨#[46]⟩ : ByteArray)) ++ t108) ++ (⟨#[46]⟩ : ByteArray)) ++ t109) ++ (⟨#[47]⟩ : ByteArray)) ++ t110)) else (none))) else (none)) else (none))) else (none)) else (none))) else (none)) else (none)) = some r := H
   have A6 := Aside0.mk A60
   clear A60
   by_cases c7 : (t106 ++ (⟨#[46]⟩ : ByteArray)).size + t107.size ≤ 9223372036854775807
   ·rw [if_pos c7] at H
    have c7b0 := eq_true c7
    have c7b1 : decide ((t106 ++ (⟨#[46]⟩ : ByteArray)).size + t107.size ≤ 9223372036854775807) = true := decide_eq_true c7
    have c7b8 : (9223372036854775807 < t106.size + 1 + t107.size) = False := eq_false (by have h_ := c7; have z_ : ∀ b, (⟨#[b]⟩ : ByteArray).size = 1 := fun _ => rfl; simp only [ByteArray.size_append, z_] at h_; omega)
    try have c7b2 : (9223372036854775807 < (t106 ++ (⟨#[46]⟩ : ByteArray)).size + t107.size) = False := eq_false (Nat.not_lt.2 c7)
    by_cases c8 : ((t106 ++ (⟨#[46]⟩ : ByteArray)) ++ t107).size + 1 ≤ 9223372036854775807
    ·rw [if_pos c8] at H
     have c8b0 := eq_true c8
     have c8b1 : decide (((t106 ++ (⟨#[46]⟩ : ByteArray)) ++ t107).size + 1 ≤ 9223372036854775807) = true := decide_eq_true c8
     have c8b8 : (9223372036854775807 < t106.size + 1 + t107.size + 1) = False := eq_false (by have h_ := c8; have z_ : ∀ b, (⟨#[b]⟩ : ByteArray).size = 1 := fun _ => rfl; simp only [ByteArray.size_append, z_] at h_; omega)
     try have c8b2 : (9223372036854775807 < ((t106 ++ (⟨#[46]⟩ : ByteArray)) ++ t107).size + 1) = False := eq_false (Nat.not_lt.2 c8)
     replace H := Option.bind_eq_some_iff.mp H
     obtain ⟨t108, A90, H⟩ := H
     replace H : (if (((t106 ++ (⟨#[46]⟩ : ByteArray)) ++ t107) ++ (⟨#[46]⟩ : ByteArray)).size + t108.size ≤ 9223372036854775807 then (if ((((t106 ++ (⟨#[46]⟩ : ByteArray)) ++ t107) ++ (⟨#[46]⟩ : ByteArray)) ++ t108).size + 1 ≤ 9223372036854775807 then ((signpostref1_digits.f k (wrap64 (Go.bits .and .u32 a0_0 255))).bind fun t109 => (if (((((t106 ++ (⟨#[46]⟩ : ByteArray)) ++ t107) ++ (⟨#[46]⟩ : ByteArray)) ++ t108) ++ (⟨#[46]⟩ : ByteArray)).size + t109.size ≤ 9223372036854775807 then (if ((((((t106 ++ (⟨#[46]⟩ : ByteArray)) ++ t107) ++ (⟨#[46]⟩ : ByteArray)) ++ t108) ++ (⟨#[46]⟩ : ByteArray)) ++ t109).size + 1 ≤ 9223372036854775807 then ((signpostref1_digits.f k a0_1).bind fun t110 => (if (((((((t106 ++ (⟨#[46]⟩ : ByteArray)) ++ t107) ++ (⟨#[46]⟩ : ByteArray)) ++ t108) ++ (⟨#[46]⟩ : ByteArray)) ++ t109) ++ (⟨#[47]⟩ : ByteArray)).size + t110.size ≤ 9223372036854775807 then (some ((((((((t106 ++ (⟨#[46]⟩ : ByteArray)) ++ t107) ++ (⟨#[46]⟩ : ByteArray)) ++ t108) ++ (⟨#[46]⟩ : ByteArray)) ++ t109) ++ (⟨#[47]⟩ : ByteArray)) ++ t110)) else (none))) else (none)) else (none))) else (none)) else (none)) = some r := H
     have A9 := Aside0.mk A90
     clear A90
     by_cases c10 : (((t106 ++ (⟨#[46]⟩ : ByteArray)) ++ t107) ++ (⟨#[46]⟩ : ByteArray)).size + t108.size ≤ 9223372036854775807
     ·rw [if_pos c10] at H
      have c10b0 := eq_true c10
      have c10b1 : decide ((((t106 ++ (⟨#[46]⟩ : ByteArray)) ++ t107) ++ (⟨#[46]⟩ : ByteArray)).size + t108.size ≤ 9223372036854775807) = true := decide_eq_true c10
      have c10b8 : (9223372036854775807 < t106.size + 1 + t107.size + 1 + t108.size) = False := eq_false (by have h_ := c10; have z_ : ∀ b, (⟨#[b]⟩ : ByteArray).size = 1 := fun _ => rfl; simp only [ByteArray.size_append, z_] at h_; omega)
      try have c10b2 : (9223372036854775807 < (((t106 ++ (⟨#[46]⟩ : ByteArray)) ++ t107) ++ (⟨#[46]⟩ : ByteArray)).size + t108.size) = False := eq_false (Nat.not_lt.2 c10)
      by_cases c11 : ((((t106 ++ (⟨#[46]⟩ : ByteArray)) ++ t107) ++ (⟨#[46]⟩ : ByteArray)) ++ t108).size + 1 ≤ 9223372036854775807
      ·rw [if_pos c11] at H
       have c11b0 := eq_true c11
       have c11b1 : decide (((((t106 ++ (⟨#[46]⟩ : ByteArray)) ++ t107) ++ (⟨#[46]⟩ : ByteArray)) ++ t108).size + 1 ≤ 9223372036854775807) = true := decide_eq_true c11
       have c11b8 : (9223372036854775807 < t106.size + 1 + t107.size + 1 + t108.size + 1) = False := eq_false (by have h_ := c11; have z_ : ∀ b, (⟨#[b]⟩ : ByteArray).size = 1 := fun _ => rfl; simp only [ByteArray.size_append, z_] at h_; omega)
       try have c11b2 : (9223372036854775807 < ((((t106 ++ (⟨#[46]⟩ : ByteArray)) ++ t107) ++ (⟨#[46]⟩ : ByteArray)) ++ t108).size + 1) = False := eq_false (Nat.not_lt.2 c11)
       replace H := Option.bind_eq_some_iff.mp H
       obtain ⟨t109, A120, H⟩ := H
       replace H : (if (((((t106 ++ (⟨#[46]⟩ : ByteArray)) ++ t107) ++ (⟨#[46]⟩ : ByteArray)) ++ t108) ++ (⟨#[46]⟩ : ByteArray)).size + t109.size ≤ 9223372036854775807 then (if ((((((t106 ++ (⟨#[46]⟩ : ByteArray)) ++ t107) ++ (⟨#[46]⟩ : ByteArray)) ++ t108) ++ (⟨#[46]⟩ : ByteArray)) ++ t109).size + 1 ≤ 9223372036854775807 then ((signpostref1_digits.f k a0_1).bind fun t110 => (if (((((((t106 ++ (⟨#[46]⟩ : ByteArray)) ++ t107) ++ (⟨#[46]⟩ : ByteArray)) ++ t108) ++ (⟨#[46]⟩ : ByteArray)) ++ t109) ++ (⟨#[47]⟩ : ByteArray)).size + t110.size ≤ 9223372036854775807 then (some ((((((((t106 ++ (⟨#[46]⟩ : ByteArray)) ++ t107) ++ (⟨#[46]⟩ : ByteArray)) ++ t108) ++ (⟨#[46]⟩ : ByteArray)) ++ t109) ++ (⟨#[47]⟩ : ByteArray)) ++ t110)) else (none))) else (none)) else (none)) = some r := H
       have A12 := Aside0.mk A120
       clear A120
       by_cases c13 : (((((t106 ++ (⟨#[46]⟩ : ByteArray)) ++ t107) ++ (⟨#[46]⟩ : ByteArray)) ++ t108) ++ (⟨#[46]⟩ : ByteArray)).size + t109.size ≤ 9223372036854775807
       ·rw [if_pos c13] at H
        have c13b0 := eq_true c13
        have c13b1 : decide ((((((t106 ++ (⟨#[46]⟩ : ByteArray)) ++ t107) ++ (⟨#[46]⟩ : ByteArray)) ++ t108) ++ (⟨#[46]⟩ : ByteArray)).size + t109.size ≤ 9223372036854775807) = true := decide_eq_true c13
        have c13b8 : (9223372036854775807 < t106.size + 1 + t107.size + 1 + t108.size + 1 + t109.size) = False := eq_false (by have h_ := c13; have z_ : ∀ b, (⟨#[b]⟩ : ByteArray).size = 1 := fun _ => rfl; simp only [ByteArray.size_append, z_] at h_; omega)
        try have c13b2 : (9223372036854775807 < (((((t106 ++ (⟨#[46]⟩ : ByteArray)) ++ t107) ++ (⟨#[46]⟩ : ByteArray)) ++ t108) ++ (⟨#[46]⟩ : ByteArray)).size + t109.size) = False := eq_false (Nat.not_lt.2 c13)
        by_cases c14 : ((((((t106 ++ (⟨#[46]⟩ : ByteArray)) ++ t107) ++ (⟨#[46]⟩ : ByteArray)) ++ t108) ++ (⟨#[46]⟩ : ByteArray)) ++ t109).size + 1 ≤ 9223372036854775807
        ·rw [if_pos c14] at H
         have c14b0 := eq_true c14
         have c14b1 : decide (((((((t106 ++ (⟨#[46]⟩ : ByteArray)) ++ t107) ++ (⟨#[46]⟩ : ByteArray)) ++ t108) ++ (⟨#[46]⟩ : ByteArray)) ++ t109).size + 1 ≤ 9223372036854775807) = true := decide_eq_true c14
         have c14b8 : (9223372036854775807 < t106.size + 1 + t107.size + 1 + t108.size + 1 + t109.size + 1) = False := eq_false (by have h_ := c14; have z_ : ∀ b, (⟨#[b]⟩ : ByteArray).size = 1 := fun _ => rfl; simp only [ByteArray.size_append, z_] at h_; omega)
         try have c14b2 : (9223372036854775807 < ((((((t106 ++ (⟨#[46]⟩ : ByteArray)) ++ t107) ++ (⟨#[46]⟩ : ByteArray)) ++ t108) ++ (⟨#[46]⟩ : ByteArray)) ++ t109).size + 1) = False := eq_false (Nat.not_lt.2 c14)
         replace H := Option.bind_eq_some_iff.mp H
         obtain ⟨t110, A150, H⟩ := H
         replace H : (if (((((((t106 ++ (⟨#[46]⟩ : ByteArray)) ++ t107) ++ (⟨#[46]⟩ : ByteArray)) ++ t108) ++ (⟨#[46]⟩ : ByteArray)) ++ t109) ++ (⟨#[47]⟩ : ByteArray)).size + t110.size ≤ 9223372036854775807 then (some ((((((((t106 ++ (⟨#[46]⟩ : ByteArray)) ++ t107) ++ (⟨#[46]⟩ : ByteArray)) ++ t108) ++ (⟨#[46]⟩ : ByteArray)) ++ t109) ++ (⟨#[47]⟩ : ByteArray)) ++ t110)) else (none)) = some r := H
         have A15 := Aside0.mk A150
         clear A150
         by_cases c16 : (((((((t106 ++ (⟨#[46]⟩ : ByteArray)) ++ t107) ++ (⟨#[46]⟩ : ByteArray)) ++ t108) ++ (⟨#[46]⟩ : ByteArray)) ++ t109) ++ (⟨#[47]⟩ : ByteArray)).size + t110.size ≤ 9223372036854775807
         ·rw [if_pos c16] at H
          have c16b0 := eq_true c16
          have c16b1 : decide ((((((((t106 ++ (⟨#[46]⟩ : ByteArray)) ++ t107) ++ (⟨#[46]⟩ : ByteArray)) ++ t108) ++ (⟨#[46]⟩ : ByteArray)) ++ t109) ++ (⟨#[47]⟩ : ByteArray)).size + t110.size ≤ 9223372036854775807) = true := decide_eq_true c16
          have c16b8 : (9223372036854775807 < t106.size + 1 + t107.size + 1 + t108.size + 1 + t109.size + 1 + t110.size) = False := eq_false (by have h_ := c16; have z_ : ∀ b, (⟨#[b]⟩ : ByteArray).size = 1 := fun _ => rfl; simp only [ByteArray.size_append, z_] at h_; omega)
          try have c16b2 : (9223372036854775807 < (((((((t106 ++ (⟨#[46]⟩ : ByteArray)) ++ t107) ++ (⟨#[46]⟩ : ByteArray)) ++ t108) ++ (⟨#[46]⟩ : ByteArray)) ++ t109) ++ (⟨#[47]⟩ : ByteArray)).size + t110.size) = False := eq_false (Nat.not_lt.2 c16)
          obtain rfl := Option.some.inj H
          go_enter Tryd.func28, Tryd.ntmps28
          try go_wp2_with (first | ((with_reducible refine gate_dst (N := 1) rfl ?_); refine box_event ?hg (N := 1) ?hd (cs := #[.int .u32 a0_0, .int .i64 a0_1]) (t := 24) ?hr ?_; (case hd => rfl); (case hg => rfl); (case hr => first | (go_simp; done) | (go_simp; rfl)); intro gb104 hg w17 hbox hb; have n0_ := Aside0.mk (below_step (by repeat (first | (with_reducible first | exact HB.out | apply below_alloc | apply pw_below_drewN | apply below_drew1) | exact HB.out)) hb); have n1_ := Aside0.mk (hbox); have n2_ := Aside0.mk ((by rw [hg]; exact (below_size (by repeat (first | (with_reducible first | exact HB.out | apply below_alloc | apply pw_below_drewN | apply below_drew1) | exact HB.out))) : w.heap.size ≤ gb104)); have n3_ := Aside0.mk ((by rw [hg]; exact (below_size (by repeat (first | (with_reducible first | exact HB.out | apply below_alloc | apply pw_below_drewN | apply below_drew1) | exact HB.out))) : w.heap.size ≤ gb104)); clear HB; have HB := n0_; have BK104 := n1_; have GW104 := n2_; have GE104 := n3_; clear n0_ n1_ n2_ n3_; clear hb hbox hg; have hcz18_0 : w17.cell? ⟨gb104, 0, none⟩ = some (.int .u32 a0_0) := (blk_cell BK104.out 0).trans rfl; have hcz18_1 : w17.cell? ⟨gb104, 1, none⟩ = some (.int .i64 a0_1) := (blk_cell BK104.out 1).trans rfl; have hfz18_0 := blk_frozen BK104.out 0; have hfz18_1 := blk_frozen BK104.out 1) | ((with_reducible refine gate_callee (f := 37) rfl ?_); refine goesL_ (some 4) rfl rfl Tryd.func37 (by kernel_rfl) rfl #[.agg #[.int .u32 a0_0, .int .i64 a0_1]] rfl (by (try simp only [List.map_toArray, List.map_cons, List.map_nil]); first | done | rfl | (simp only [List.length_drop, List.length_take]; rfl)) ?_; (with_reducible refine (signpostref1_Right.calls k a0_0 a0_1 true _ A2.out).mono ?_); rintro e w19 ⟨rfl, hb⟩; refine ⟨_, rfl, ?_⟩; have n0_ := Aside0.mk (blk_below (g := gb104) (o := .cells #[.int .u32 a0_0, .int .i64 a0_1] 24 (0, 0)) (by (with_reducible repeat (first | refine blk_drewN ?_ _ | refine blk_drew ?_ | refine blk_alloc ?_ _)); exact BK104.out) hb); have n1_ := Aside0.mk (below_step (by repeat (first | (with_reducible first | exact HB.out | apply below_alloc | apply pw_below_drewN | apply below_drew1 | refine below_set ?_ GE104.out) | exact HB.out)) hb); clear BK104; clear HB; have BK104 := n0_; have HB := n1_; clear n0_ n1_; (try clear hb); (try clear hb2); (try clear hk); (try clear hi)))
          have n0_ := Aside0.mk (blk_drew BK104.out)
          have n1_ := Aside0.mk (below_drew1 HB.out)
          clear BK104
          clear HB
          have BK104 := n0_
          have HB := n1_
          clear n0_ n1_
          refine start_ (n := 34) (S := fun w' => w'.cell? ⟨gb104, 0, none⟩ = some (.int .u32 a0_0) ∧ w'.cell? ⟨gb104, 1, none⟩ = some (.int .i64 a0_1)) (ds := []) #[false, false, false, false, false, false, false, false, false, false, false, false, false, false, false, false, false, false, false, false, false, false, false, false, false, false, false, false, false, false, false, false, false, false] (by kernel_rfl) rfl rfl ⟨(blk_cell BK104.out 0).trans rfl, (blk_cell BK104.out 1).trans rfl⟩ (fun hHeld => ?_); refine with_tabW signpostref1_Text.tab3 signpostref1_Text.bits3 (fun HT_ HW_ => ?_)
          generalize w19.drew = w20 at BK104 HB hHeld ⊢
          refine pure_ (i := 0) (N := some 6) (v := ?_) (a' := ?_) #[true, false, false, false, false, false, false, false, false, false, false, false, false, false, false, false, false, false, false, false, false, false, false, false, false, false, false, false, false, false, false, false, false, false] rfl rfl (any_of HT_.out (by kernel_rfl)) (fun _ _ _ h => h) (Or.inl ⟨by rfl, ?_⟩) ?_ ?_
          rotate_left
          ·intro w'
           go_simp
           with_reducible rfl
          rotate_left
          ·simp only [Act.put, List.setIfInBounds_toArray, List.set_cons_zero, List.set_cons_succ, i64_w, i32_w]
           rfl
          refine pure_ (i := 6) (N := some 12) (v := ?_) (a' := ?_) #[true, false, false, false, false, false, true, false, false, false, false, false, false, false, false, false, false, false, false, false, false, false, false, false, false, false, false, false, false, false, false, false, false, false] rfl rfl (any_of HT_.out (by kernel_rfl)) (fun _ _ _ h => h) (Or.inl ⟨by rfl, ?_⟩) ?_ ?_
          rotate_left
          ·intro w'
           go_simp
           with_reducible rfl
          rotate_left
          ·simp only [Act.put, List.setIfInBounds_toArray, List.set_cons_zero, List.set_cons_succ, i64_w, i32_w]
           rfl
          refine pure_ (i := 14) (N := some 20) (v := ?_) (a' := ?_) #[true, false, false, false, false, false, true, false, false, false, false, false, false, false, true, false, false, false, false, false, false, false, false, false, false, false, false, false, false, false, false, false, false, false] rfl rfl (any_of HT_.out (by kernel_rfl)) (fun _ _ _ h => h) (Or.inl ⟨by rfl, ?_⟩) ?_ ?_
          rotate_left
          ·intro w'
           go_simp
           with_reducible rfl
          rotate_left
          ·simp only [Act.put, List.setIfInBounds_toArray, List.set_cons_zero, List.set_cons_succ, i64_w, i32_w]
           rfl
          refine pure_ (i := 22) (N := some 28) (v := ?_) (a' := ?_) #[true, false, false, false, false, false, true, false, false, false, false, false, false, false, true, false, false, false, false, false, false, false, true, false, false, false, false, false, false, false, false, false, false, false] rfl rfl (any_of HT_.out (by kernel_rfl)) (fun _ _ _ h => h) (Or.inl ⟨by rfl, ?_⟩) ?_ ?_
          rotate_left
          ·intro w'
           go_simp
           with_reducible rfl
          rotate_left
          ·simp only [Act.put, List.setIfInBounds_toArray, List.set_cons_zero, List.set_cons_succ, i64_w, i32_w]
           rfl
          refine pure_ (i := 29) (N := some 35) (v := ?_) (a' := ?_) #[true, false, false, false, false, false, true, false, false, false, false, false, false, false, true, false, false, false, false, false, false, false, true, false, false, false, false, false, false, true, false, false, false, false] rfl rfl (any_of HT_.out (by kernel_rfl)) (fun _ _ _ h => h) (Or.inl ⟨by rfl, ?_⟩) ?_ ?_
          rotate_left
          ·intro w'
           go_simp
           with_reducible rfl
          rotate_left
          ·simp only [Act.put, List.setIfInBounds_toArray, List.set_cons_zero, List.set_cons_succ, i64_w, i32_w]
           rfl
          refine take_ (i := 1) (N := some 7) (v := ?_) (a' := ?_) #[true, true, false, false, false, false, true, false, false, false, false, false, false, false, true, false, false, false, false, false, false, false, true, false, false, false, false, false, false, true, false, false, false, false] rfl rfl (take_ofW HT_.out HW_.out (by kernel_rfl)) (fun _ _ _ h => h) (Or.inl ⟨by rfl, ?_⟩) hHeld ?_ ?_
          rotate_left
          ·rintro w' ⟨s0, s1⟩
           go_simp
           with_reducible rfl
          rotate_left
          ·simp only [Act.put, List.setIfInBounds_toArray, List.set_cons_zero, List.set_cons_succ, i64_w, i32_w]
           rfl
          refine pure_ (i := 2) (N := some 8) (v := ?_) (a' := ?_) #[true, true, true, false, false, false, true, false, false, false, false, false, false, false, true, false, false, false, false, false, false, false, true, false, false, false, false, false, false, true, false, false, false, false] rfl rfl (any_of HT_.out (by kernel_rfl)) (fun _ _ _ h => h) (Or.inl ⟨by rfl, ?_⟩) ?_ ?_
          rotate_left
          ·intro w'
           go_simp
           with_reducible rfl
          rotate_left
          ·simp only [Act.put, List.setIfInBounds_toArray, List.set_cons_zero, List.set_cons_succ, i64_w, i32_w]
           rfl
          refine pure_ (i := 3) (N := some 9) (v := ?_) (a' := ?_) #[true, true, true, true, false, false, true, false, false, false, false, false, false, false, true, false, false, false, false, false, false, false, true, false, false, false, false, false, false, true, false, false, false, false] rfl rfl (any_of HT_.out (by kernel_rfl)) (fun _ _ _ h => h) (Or.inl ⟨by rfl, ?_⟩) ?_ ?_
          rotate_left
          ·intro w'
           go_simp
           with_reducible rfl
          rotate_left
          ·simp only [Act.put, List.setIfInBounds_toArray, List.set_cons_zero, List.set_cons_succ, i64_w, i32_w]
           rfl
          refine take_ (i := 7) (N := some 13) (v := ?_) (a' := ?_) #[true, true, true, true, false, false, true, true, false, false, false, false, false, false, true, false, false, false, false, false, false, false, true, false, false, false, false, false, false, true, false, false, false, false] rfl rfl (take_ofW HT_.out HW_.out (by kernel_rfl)) (fun _ _ _ h => h) (Or.inl ⟨by rfl, ?_⟩) hHeld ?_ ?_
          rotate_left
          ·rintro w' ⟨s0, s1⟩
           go_simp
           with_reducible rfl
          rotate_left
          ·simp only [Act.put, List.setIfInBounds_toArray, List.set_cons_zero, List.set_cons_succ, i64_w, i32_w]
           rfl
          refine pure_ (i := 8) (N := some 14) (v := ?_) (a' := ?_) #[true, true, true, true, false, false, true, true, true, false, false, false, false, false, true, false, false, false, false, false, false, false, true, false, false, false, false, false, false, true, false, false, false, false] rfl rfl (any_of HT_.out (by kernel_rfl)) (fun _ _ _ h => h) (Or.inl ⟨by rfl, ?_⟩) ?_ ?_
          rotate_left
          ·intro w'
           go_simp
           with_reducible rfl
          rotate_left
          ·simp only [Act.put, List.setIfInBounds_toArray, List.set_cons_zero, List.set_cons_succ, i64_w, i32_w]
           rfl
          refine pure_ (i := 9) (N := some 15) (v := ?_) (a' := ?_) #[true, true, true, true, false, false, true, true, true, true, false, false, false, false, true, false, false, false, false, false, false, false, true, false, false, false, false, false, false, true, false, false, false, false] rfl rfl (any_of HT_.out (by kernel_rfl)) (fun _ _ _ h => h) (Or.inl ⟨by rfl, ?_⟩) ?_ ?_
          rotate_left
          ·intro w'
           go_simp
           with_reducible rfl
          rotate_left
          ·simp only [Act.put, List.setIfInBounds_toArray, List.set_cons_zero, List.set_cons_succ, i64_w, i32_w]
           rfl
          refine pure_ (i := 10) (N := some 16) (v := ?_) (a' := ?_) #[true, true, true, true, false, false, true, true, true, true, true, false, false, false, true, false, false, false, false, false, false, false, true, false, false, false, false, false, false, true, false, false, false, false] rfl rfl (any_of HT_.out (by kernel_rfl)) (fun _ _ _ h => h) (Or.inl ⟨by rfl, ?_⟩) ?_ ?_
          rotate_left
          ·intro w'
           go_simp
           with_reducible rfl
          rotate_left
          ·simp only [Act.put, List.setIfInBounds_toArray, List.set_cons_zero, List.set_cons_succ, i64_w, i32_w]
           rfl
          refine take_ (i := 15) (N := some 21) (v := ?_) (a' := ?_) #[true, true, true, true, false, false, true, true, true, true, true, false, false, false, true, true, false, false, false, false, false, false, true, false, false, false, false, false, false, true, false, false, false, false] rfl rfl (take_ofW HT_.out HW_.out (by kernel_rfl)) (fun _ _ _ h => h) (Or.inl ⟨by rfl, ?_⟩) hHeld ?_ ?_
          rotate_left
          ·rintro w' ⟨s0, s1⟩
           go_simp
           with_reducible rfl
          rotate_left
          ·simp only [Act.put, List.setIfInBounds_toArray, List.set_cons_zero, List.set_cons_succ, i64_w, i32_w]
           rfl
          refine pure_ (i := 16) (N := some 22) (v := ?_) (a' := ?_) #[true, true, true, true, false, false, true, true, true, true, true, false, false, false, true, true, true, false, false, false, false, false, true, false, false, false, false, false, false, true, false, false, false, false] rfl rfl (any_of HT_.out (by kernel_rfl)) (fun _ _ _ h => h) (Or.inl ⟨by rfl, ?_⟩) ?_ ?_
          rotate_left
          ·intro w'
           go_simp
           with_reducible rfl
          rotate_left
          ·simp only [Act.put, List.setIfInBounds_toArray, List.set_cons_zero, List.set_cons_succ, i64_w, i32_w]
           rfl
          refine pure_ (i := 17) (N := some 23) (v := ?_) (a' := ?_) #[true, true, true, true, false, false, true, true, true, true, true, false, false, false, true, true, true, true, false, false, false, false, true, false, false, false, false, false, false, true, false, false, false, false] rfl rfl (any_of HT_.out (by kernel_rfl)) (fun _ _ _ h => h) (Or.inl ⟨by rfl, ?_⟩) ?_ ?_
          rotate_left
          ·intro w'
           go_simp
           with_reducible rfl
          rotate_left
          ·simp only [Act.put, List.setIfInBounds_toArray, List.set_cons_zero, List.set_cons_succ, i64_w, i32_w]
           rfl
          refine pure_ (i := 18) (N := some 24) (v := ?_) (a' := ?_) #[true, true, true, true, false, false, true, true, true, true, true, false, false, false, true, true, true, true, true, false, false, false, true, false, false, false, false, false, false, true, false, false, false, false] rfl rfl (any_of HT_.out (by kernel_rfl)) (fun _ _ _ h => h) (Or.inl ⟨by rfl, ?_⟩) ?_ ?_
          rotate_left
          ·intro w'
           go_simp
           with_reducible rfl
          rotate_left
          ·simp only [Act.put, List.setIfInBounds_toArray, List.set_cons_zero, List.set_cons_succ, i64_w, i32_w]
           rfl
          refine take_ (i := 23) (N := some 29) (v := ?_) (a' := ?_) #[true, true, true, true, false, false, true, true, true, true, true, false, false, false, true, true, true, true, true, false, false, false, true, true, false, false, false, false, false, true, false, false, false, false] rfl rfl (take_ofW HT_.out HW_.out (by kernel_rfl)) (fun _ _ _ h => h) (Or.inl ⟨by rfl, ?_⟩) hHeld ?_ ?_
          rotate_left
          ·rintro w' ⟨s0, s1⟩
           go_simp
           with_reducible rfl
          rotate_left
          ·simp only [Act.put, List.setIfInBounds_toArray, List.set_cons_zero, List.set_cons_succ, i64_w, i32_w]
           rfl
          refine pure_ (i := 24) (N := some 30) (v := ?_) (a' := ?_) #[true, true, true, true, false, false, true, true, true, true, true, false, false, false, true, true, true, true, true, false, false, false, true, true, true, false, false, false, false, true, false, false, false, false] rfl rfl (any_of HT_.out (by kernel_rfl)) (fun _ _ _ h => h) (Or.inl ⟨by rfl, ?_⟩) ?_ ?_
          rotate_left
          ·intro w'
           go_simp
           with_reducible rfl
          rotate_left
          ·simp only [Act.put, List.setIfInBounds_toArray, List.set_cons_zero, List.set_cons_succ, i64_w, i32_w]
           rfl
          refine pure_ (i := 25) (N := some 31) (v := ?_) (a' := ?_) #[true, true, true, true, false, false, true, true, true, true, true, false, false, false, true, true, true, true, true, false, false, false, true, true, true, true, false, false, false, true, false, false, false, false] rfl rfl (any_of HT_.out (by kernel_rfl)) (fun _ _ _ h => h) (Or.inl ⟨by rfl, ?_⟩) ?_ ?_
          rotate_left
          ·intro w'
           go_simp
           with_reducible rfl
          rotate_left
          ·simp only [Act.put, List.setIfInBounds_toArray, List.set_cons_zero, List.set_cons_succ, i64_w, i32_w]
           rfl
          refine take_ (i := 30) (N := some 36) (v := ?_) (a' := ?_) #[true, true, true, true, false, false, true, true, true, true, true, false, false, false, true, true, true, true, true, false, false, false, true, true, true, true, false, false, false, true, true, false, false, false] rfl rfl (take_ofW HT_.out HW_.out (by kernel_rfl)) (fun _ _ _ h => h) (Or.inl ⟨by rfl, ?_⟩) hHeld ?_ ?_
          rotate_left
          ·rintro w' ⟨s0, s1⟩
           go_simp
           with_reducible rfl
          rotate_left
          ·simp only [Act.put, List.setIfInBounds_toArray, List.set_cons_zero, List.set_cons_succ, i64_w, i32_w]
           rfl
          refine one_ (i := 4) (N := some 10) #[true, true, true, true, true, false, true, true, true, true, true, false, false, false, true, true, true, true, true, false, false, false, true, true, true, true, false, false, false, true, true, false, false, false] rfl rfl (one_of HT_.out (by kernel_rfl)) (by decide) (fun K hK => ?_)
          refine goes_ Tryd.func43 (by kernel_rfl) rfl #[.int .i64 (wrap64 (a0_0 / 16777216))] (by rfl) rfl rfl (by (try simp only [List.map_toArray, List.map_cons, List.map_nil]); first | done | rfl | (simp only [List.length_drop, List.length_take]; rfl)) ?_
          with_reducible refine (signpostref1_digits.calls k (wrap64 (a0_0 / 16777216)) t106 _ A4.out).mono ?_
          rintro e w21 ⟨rfl, hb⟩
          refine ⟨_, rfl, ?_⟩
          have n0_ := Aside0.mk (blk_below (g := gb104) (o := .cells #[.int .u32 a0_0, .int .i64 a0_1] 24 (0, 0)) (by (with_reducible repeat (first | refine blk_drewN ?_ _ | refine blk_drew ?_ | refine blk_alloc ?_ _)); exact BK104.out) hb)
          have n1_ := Aside0.mk (below_step (by repeat (first | (with_reducible first | exact HB.out | apply below_alloc | apply pw_below_drewN | apply below_drew1 | refine below_set ?_ GE104.out) | exact HB.out)) hb)
          clear BK104
          clear HB
          have BK104 := n0_
          have HB := n1_
          clear n0_ n1_
          (try clear hb)
          (try clear hb2)
          (try clear hk)
          (try clear hi)
          refine hK.out _ _ ⟨(blk_cell BK104.out 0).trans rfl, (blk_cell BK104.out 1).trans rfl⟩ (fun hHeld => ?_)
          clear hK K
          refine norm_ (a' := ?_) ?_ ?_
          rotate_left
          ·show Act.put _ (some 10) _ = _
           simp only [Act.put, List.setIfInBounds_toArray, List.set_cons_zero, List.set_cons_succ, i64_w, i32_w]
           rfl
          refine pure_ (i := 5) (N := some 11) (v := ?_) (a' := ?_) #[true, true, true, true, true, true, true, true, true, true, true, false, false, false, true, true, true, true, true, false, false, false, true, true, true, true, false, false, false, true, true, false, false, false] rfl rfl (any_of HT_.out (by kernel_rfl)) (fun _ _ _ h => h) (Or.inl ⟨by rfl, ?_⟩) ?_ ?_
          rotate_left
          ·intro w'
           go_simp
           with_reducible rfl
          rotate_left
          ·simp only [Act.put, List.setIfInBounds_toArray, List.set_cons_zero, List.set_cons_succ, i64_w, i32_w]
           rfl
          refine one_ (i := 11) (N := some 17) #[true, true, true, true, true, true, true, true, true, true, true, true, false, false, true, true, true, true, true, false, false, false, true, true, true, true, false, false, false, true, true, false, false, false] rfl rfl (one_of HT_.out (by kernel_rfl)) (by decide) (fun K hK => ?_)
          refine goes_ Tryd.func43 (by kernel_rfl) rfl #[.int .i64 (wrap64 (Go.bits .and .u32 (a0_0 / 65536) 255))] (by rfl) rfl rfl (by (try simp only [List.map_toArray, List.map_cons, List.map_nil]); first | done | rfl | (simp only [List.length_drop, List.length_take]; rfl)) ?_
          with_reducible refine (signpostref1_digits.calls k (wrap64 (Go.bits .and .u32 (a0_0 / 65536) 255)) t107 _ A6.out).mono ?_
          rintro e w22 ⟨rfl, hb⟩
          refine ⟨_, rfl, ?_⟩
          have n0_ := Aside0.mk (blk_below (g := gb104) (o := .cells #[.int .u32 a0_0, .int .i64 a0_1] 24 (0, 0)) (by (with_reducible repeat (first | refine blk_drewN ?_ _ | refine blk_drew ?_ | refine blk_alloc ?_ _)); exact BK104.out) hb)
          have n1_ := Aside0.mk (below_step (by repeat (first | (with_reducible first | exact HB.out | apply below_alloc | apply pw_below_drewN | apply below_drew1 | refine below_set ?_ GE104.out) | exact HB.out)) hb)
          clear BK104
          clear HB
          have BK104 := n0_
          have HB := n1_
          clear n0_ n1_
          (try clear hb)
          (try clear hb2)
          (try clear hk)
          (try clear hi)
          refine hK.out _ _ ⟨(blk_cell BK104.out 0).trans rfl, (blk_cell BK104.out 1).trans rfl⟩ (fun hHeld => ?_)
          clear hK K
          refine norm_ (a' := ?_) ?_ ?_
          rotate_left
          ·show Act.put _ (some 17) _ = _
           simp only [Act.put, List.setIfInBounds_toArray, List.set_cons_zero, List.set_cons_succ, i64_w, i32_w]
           rfl
          refine pure_ (i := 12) (N := some 18) (v := ?_) (a' := ?_) #[true, true, true, true, true, true, true, true, true, true, true, true, true, false, true, true, true, true, true, false, false, false, true, true, true, true, false, false, false, true, true, false, false, false] rfl rfl (any_of HT_.out (by kernel_rfl)) (fun _ _ _ h => h) (Or.inl ⟨by rfl, ?_⟩) ?_ ?_
          rotate_left
          ·intro w'
           go_simp
           with_reducible rfl
          rotate_left
          ·simp only [Act.put, List.setIfInBounds_toArray, List.set_cons_zero, List.set_cons_succ, i64_w, i32_w]
           rfl
          refine pure_ (i := 13) (N := some 19) (v := ?_) (a' := ?_) #[true, true, true, true, true, true, true, true, true, true, true, true, true, true, true, true, true, true, true, false, false, false, true, true, true, true, false, false, false, true, true, false, false, false] rfl rfl (any_of HT_.out (by kernel_rfl)) (fun _ _ _ h => h) (Or.inl ⟨by rfl, ?_⟩) ?_ ?_
          rotate_left
          ·intro w'
           go_simp
           with_reducible rfl
          rotate_left
          ·simp only [Act.put, List.setIfInBounds_toArray, List.set_cons_zero, List.set_cons_succ, i64_w, i32_w]
           rfl
          refine one_ (i := 19) (N := some 25) #[true, true, true, true, true, true, true, true, true, true, true, true, true, true, true, true, true, true, true, true, false, false, true, true, true, true, false, false, false, true, true, false, false, false] rfl rfl (one_of HT_.out (by kernel_rfl)) (by decide) (fun K hK => ?_)
          refine goes_ Tryd.func43 (by kernel_rfl) rfl #[.int .i64 (wrap64 (Go.bits .and .u32 (a0_0 / 256) 255))] (by rfl) rfl rfl (by (try simp only [List.map_toArray, List.map_cons, List.map_nil]); first | done | rfl | (simp only [List.length_drop, List.length_take]; rfl)) ?_
          with_reducible refine (signpostref1_digits.calls k (wrap64 (Go.bits .and .u32 (a0_0 / 256) 255)) t108 _ A9.out).mono ?_
          rintro e w23 ⟨rfl, hb⟩
          refine ⟨_, rfl, ?_⟩
          have n0_ := Aside0.mk (blk_below (g := gb104) (o := .cells #[.int .u32 a0_0, .int .i64 a0_1] 24 (0, 0)) (by (with_reducible repeat (first | refine blk_drewN ?_ _ | refine blk_drew ?_ | refine blk_alloc ?_ _)); exact BK104.out) hb)
          have n1_ := Aside0.mk (below_step (by repeat (first | (with_reducible first | exact HB.out | apply below_alloc | apply pw_below_drewN | apply below_drew1 | refine below_set ?_ GE104.out) | exact HB.out)) hb)
          clear BK104
          clear HB
          have BK104 := n0_
          have HB := n1_
          clear n0_ n1_
          (try clear hb)
          (try clear hb2)
          (try clear hk)
          (try clear hi)
          refine hK.out _ _ ⟨(blk_cell BK104.out 0).trans rfl, (blk_cell BK104.out 1).trans rfl⟩ (fun hHeld => ?_)
          clear hK K
          refine norm_ (a' := ?_) ?_ ?_
          rotate_left
          ·show Act.put _ (some 25) _ = _
           simp only [Act.put, List.setIfInBounds_toArray, List.set_cons_zero, List.set_cons_succ, i64_w, i32_w]
           rfl
          refine pure_ (i := 20) (N := some 26) (v := ?_) (a' := ?_) #[true, true, true, true, true, true, true, true, true, true, true, true, true, true, true, true, true, true, true, true, true, false, true, true, true, true, false, false, false, true, true, false, false, false] rfl rfl (any_of HT_.out (by kernel_rfl)) (fun _ _ _ h => h) (Or.inl ⟨by rfl, ?_⟩) ?_ ?_
          rotate_left
          ·intro w'
           go_simp
           with_reducible rfl
          rotate_left
          ·simp only [Act.put, List.setIfInBounds_toArray, List.set_cons_zero, List.set_cons_succ, i64_w, i32_w]
           rfl
          refine pure_ (i := 21) (N := some 27) (v := ?_) (a' := ?_) #[true, true, true, true, true, true, true, true, true, true, true, true, true, true, true, true, true, true, true, true, true, true, true, true, true, true, false, false, false, true, true, false, false, false] rfl rfl (any_of HT_.out (by kernel_rfl)) (fun _ _ _ h => h) (Or.inl ⟨by rfl, ?_⟩) ?_ ?_
          rotate_left
          ·intro w'
           go_simp
           with_reducible rfl
          rotate_left
          ·simp only [Act.put, List.setIfInBounds_toArray, List.set_cons_zero, List.set_cons_succ, i64_w, i32_w]
           rfl
          refine one_ (i := 26) (N := some 32) #[true, true, true, true, true, true, true, true, true, true, true, true, true, true, true, true, true, true, true, true, true, true, true, true, true, true, true, false, false, true, true, false, false, false] rfl rfl (one_of HT_.out (by kernel_rfl)) (by decide) (fun K hK => ?_)
          refine goes_ Tryd.func43 (by kernel_rfl) rfl #[.int .i64 (wrap64 (Go.bits .and .u32 a0_0 255))] (by rfl) rfl rfl (by (try simp only [List.map_toArray, List.map_cons, List.map_nil]); first | done | rfl | (simp only [List.length_drop, List.length_take]; rfl)) ?_
          with_reducible refine (signpostref1_digits.calls k (wrap64 (Go.bits .and .u32 a0_0 255)) t109 _ A12.out).mono ?_
          rintro e w24 ⟨rfl, hb⟩
          refine ⟨_, rfl, ?_⟩
          have n0_ := Aside0.mk (blk_below (g := gb104) (o := .cells #[.int .u32 a0_0, .int .i64 a0_1] 24 (0, 0)) (by (with_reducible repeat (first | refine blk_drewN ?_ _ | refine blk_drew ?_ | refine blk_alloc ?_ _)); exact BK104.out) hb)
          have n1_ := Aside0.mk (below_step (by repeat (first | (with_reducible first | exact HB.out | apply below_alloc | apply pw_below_drewN | apply below_drew1 | refine below_set ?_ GE104.out) | exact HB.out)) hb)
          clear BK104
          clear HB
          have BK104 := n0_
          have HB := n1_
          clear n0_ n1_
          (try clear hb)
          (try clear hb2)
          (try clear hk)
          (try clear hi)
          refine hK.out _ _ ⟨(blk_cell BK104.out 0).trans rfl, (blk_cell BK104.out 1).trans rfl⟩ (fun hHeld => ?_)
          clear hK K
          refine norm_ (a' := ?_) ?_ ?_
          rotate_left
          ·show Act.put _ (some 32) _ = _
           simp only [Act.put, List.setIfInBounds_toArray, List.set_cons_zero, List.set_cons_succ, i64_w, i32_w]
           rfl
          refine pure_ (i := 27) (N := some 33) (v := ?_) (a' := ?_) #[true, true, true, true, true, true, true, true, true, true, true, true, true, true, true, true, true, true, true, true, true, true, true, true, true, true, true, true, false, true, true, false, false, false] rfl rfl (any_of HT_.out (by kernel_rfl)) (fun _ _ _ h => h) (Or.inl ⟨by rfl, ?_⟩) ?_ ?_
          rotate_left
          ·intro w'
           go_simp
           with_reducible rfl
          rotate_left
          ·simp only [Act.put, List.setIfInBounds_toArray, List.set_cons_zero, List.set_cons_succ, i64_w, i32_w]
           rfl
          refine pure_ (i := 28) (N := some 34) (v := ?_) (a' := ?_) #[true, true, true, true, true, true, true, true, true, true, true, true, true, true, true, true, true, true, true, true, true, true, true, true, true, true, true, true, true, true, true, false, false, false] rfl rfl (any_of HT_.out (by kernel_rfl)) (fun _ _ _ h => h) (Or.inl ⟨by rfl, ?_⟩) ?_ ?_
          rotate_left
          ·intro w'
           go_simp
           with_reducible rfl
          rotate_left
          ·simp only [Act.put, List.setIfInBounds_toArray, List.set_cons_zero, List.set_cons_succ, i64_w, i32_w]
           rfl
          refine one_ (i := 31) (N := some 37) #[true, true, true, true, true, true, true, true, true, true, true, true, true, true, true, true, true, true, true, true, true, true, true, true, true, true, true, true, true, true, true, true, false, false] rfl rfl (one_of HT_.out (by kernel_rfl)) (by decide) (fun K hK => ?_)
          refine goes_ Tryd.func43 (by kernel_rfl) rfl #[.int .i64 a0_1] (by rfl) rfl rfl (by (try simp only [List.map_toArray, List.map_cons, List.map_nil]); first | done | rfl | (simp only [List.length_drop, List.length_take]; rfl)) ?_
          with_reducible refine (signpostref1_digits.calls k a0_1 t110 _ A15.out).mono ?_
          rintro e w25 ⟨rfl, hb⟩
          refine ⟨_, rfl, ?_⟩
          have n0_ := Aside0.mk (blk_below (g := gb104) (o := .cells #[.int .u32 a0_0, .int .i64 a0_1] 24 (0, 0)) (by (with_reducible repeat (first | refine blk_drewN ?_ _ | refine blk_drew ?_ | refine blk_alloc ?_ _)); exact BK104.out) hb)
          have n1_ := Aside0.mk (below_step (by repeat (first | (with_reducible first | exact HB.out | apply below_alloc | apply pw_below_drewN | apply below_drew1 | refine below_set ?_ GE104.out) | exact HB.out)) hb)
          clear BK104
          clear HB
          have BK104 := n0_
          have HB := n1_
          clear n0_ n1_
          (try clear hb)
          (try clear hb2)
          (try clear hk)
          (try clear hi)
          refine hK.out _ _ ⟨(blk_cell BK104.out 0).trans rfl, (blk_cell BK104.out 1).trans rfl⟩ (fun hHeld => ?_)
          clear hK K
          refine norm_ (a' := ?_) ?_ ?_
          rotate_left
          ·show Act.put _ (some 37) _ = _
           simp only [Act.put, List.setIfInBounds_toArray, List.set_cons_zero, List.set_cons_succ, i64_w, i32_w]
           rfl
          refine pure_ (i := 32) (N := some 38) (v := ?_) (a' := ?_) #[true, true, true, true, true, true, true, true, true, true, true, true, true, true, true, true, true, true, true, true, true, true, true, true, true, true, true, true, true, true, true, true, true, false] rfl rfl (any_of HT_.out (by kernel_rfl)) (fun _ _ _ h => h) (Or.inl ⟨by rfl, ?_⟩) ?_ ?_
          rotate_left
          ·intro w'
           go_simp
           with_reducible rfl
          rotate_left
          ·simp only [Act.put, List.setIfInBounds_toArray, List.set_cons_zero, List.set_cons_succ, i64_w, i32_w]
           rfl
          refine pure_ (i := 33) (N := some 2) (v := ?_) (a' := ?_) #[true, true, true, true, true, true, true, true, true, true, true, true, true, true, true, true, true, true, true, true, true, true, true, true, true, true, true, true, true, true, true, true, true, true] rfl rfl (any_of HT_.out (by kernel_rfl)) (fun _ _ _ h => h) (Or.inl ⟨by rfl, ?_⟩) ?_ ?_
          rotate_left
          ·intro w'
           go_simp
           with_reducible rfl
          rotate_left
          ·simp only [Act.put, List.setIfInBounds_toArray, List.set_cons_zero, List.set_cons_succ, i64_w, i32_w]
           rfl
          refine done_ (done_of HT_.out (by kernel_rfl)) ?_
          try go_wp2
          go_ret
          exact ⟨by first | rfl | (simp [errW_none, errW_some] <;> rfl) | (simp [*, errW_none, errW_some] <;> rfl), by repeat (first | (with_reducible first | exact HB.out | apply below_alloc | apply pw_below_drewN | apply below_drew1 | refine below_set ?_ GE104.out) | exact HB.out)⟩
         ·rw [if_neg c16] at H
          exact absurd H (by simp)
        ·rw [if_neg c14] at H
         exact absurd H (by simp)
       ·rw [if_neg c13] at H
        exact absurd H (by simp)
      ·rw [if_neg c11] at H
       exact absurd H (by simp)
     ·rw [if_neg c10] at H
      exact absurd H (by simp)
    ·rw [if_neg c8] at H
     exact absurd H (by simp)
   ·rw [if_neg c7] at H
    exact absurd H (by simp)
  ·rw [if_neg c5] at H
   exact absurd H (by simp)
 ·replace c3 := Bool.eq_false_iff.mpr c3
  subst c3
  have H1 : (some (⟨#[]⟩ : ByteArray)) = some r := by rw [if_neg (show ¬ (false = true) by decide)] at H; exact H
  clear H
  have H := H1
  clear H1
  obtain rfl := Option.some.inj H
  go_enter Tryd.func28, Tryd.ntmps28
  go_wp2_with (first | ((with_reducible refine gate_dst (N := 1) rfl ?_); refine box_event ?hg (N := 1) ?hd (cs := #[.int .u32 a0_0, .int .i64 a0_1]) (t := 24) ?hr ?_; (case hd => rfl); (case hg => rfl); (case hr => first | (go_simp; done) | (go_simp; rfl)); intro gb104 hg w26 hbox hb; have n0_ := Aside0.mk (below_step (by repeat (first | (with_reducible first | exact HB.out | apply below_alloc | apply pw_below_drewN | apply below_drew1) | exact HB.out)) hb); have n1_ := Aside0.mk (hbox); have n2_ := Aside0.mk ((by rw [hg]; exact (below_size (by repeat (first | (with_reducible first | exact HB.out | apply below_alloc | apply pw_below_drewN | apply below_drew1) | exact HB.out))) : w.heap.size ≤ gb104)); have n3_ := Aside0.mk ((by rw [hg]; exact (below_size (by repeat (first | (with_reducible first | exact HB.out | apply below_alloc | apply pw_below_drewN | apply below_drew1) | exact HB.out))) : w.heap.size ≤ gb104)); clear HB; have HB := n0_; have BK104 := n1_; have GW104 := n2_; have GE104 := n3_; clear n0_ n1_ n2_ n3_; clear hb hbox hg; have hcz27_0 : w26.cell? ⟨gb104, 0, none⟩ = some (.int .u32 a0_0) := (blk_cell BK104.out 0).trans rfl; have hcz27_1 : w26.cell? ⟨gb104, 1, none⟩ = some (.int .i64 a0_1) := (blk_cell BK104.out 1).trans rfl; have hfz27_0 := blk_frozen BK104.out 0; have hfz27_1 := blk_frozen BK104.out 1) | ((with_reducible refine gate_callee (f := 37) rfl ?_); refine goesL_ (some 4) rfl rfl Tryd.func37 (by kernel_rfl) rfl #[.agg #[.int .u32 a0_0, .int .i64 a0_1]] rfl (by (try simp only [List.map_toArray, List.map_cons, List.map_nil]); first | done | rfl | (simp only [List.length_drop, List.length_take]; rfl)) ?_; (with_reducible refine (signpostref1_Right.calls k a0_0 a0_1 false _ A2.out).mono ?_); rintro e w28 ⟨rfl, hb⟩; refine ⟨_, rfl, ?_⟩; have n0_ := Aside0.mk (blk_below (g := gb104) (o := .cells #[.int .u32 a0_0, .int .i64 a0_1] 24 (0, 0)) (by (with_reducible repeat (first | refine blk_drewN ?_ _ | refine blk_drew ?_ | refine blk_alloc ?_ _)); exact BK104.out) hb); have n1_ := Aside0.mk (below_step (by repeat (first | (with_reducible first | exact HB.out | apply below_alloc | apply pw_below_drewN | apply below_drew1 | refine below_set ?_ GE104.out) | exact HB.out)) hb); clear BK104; clear HB; have BK104 := n0_; have HB := n1_; clear n0_ n1_; (try clear hb); (try clear hb2); (try clear hk); (try clear hi)))
  go_ret
  exact ⟨by first | rfl | (simp [errW_none, errW_some] <;> rfl) | (simp [*, errW_none, errW_some] <;> rfl), by repeat (first | (with_reducible first | exact HB.out | apply below_alloc | apply pw_below_drewN | apply below_drew1 | refine below_set ?_ GE104.out) | exact HB.out)⟩
end Go.Proofs.YtokfgajfkopelaaDoor.BP
namespace Go.Proofs.YtokfgajfkopelaaDoor.Mine
open Go.RowKit Go.Proofs.YtokfgajfkopelaaDoorW.PrintWords Go.Proofs.YtokfgajfkopelaaDoorW.PrintLast Go.Proofs.YtokfgajfkopelaaDoorW.PrintMore
set_option linter.unusedVariables false
set_option linter.unusedSimpArgs false
theorem join_four (x0 x1 x2 x3 : ByteArray) : (⟨(Lib.join ([x0, x1, x2, x3].map (·.data.toList)) [46]).toArray⟩ : ByteArray) = x0 ++ ⟨#[46]⟩ ++ x1 ++ ⟨#[46]⟩ ++ x2 ++ ⟨#[46]⟩ ++ x3 := by
  apply ByteArray.ext
  simp only [ByteArray.data_append]
  apply Array.toList_inj.1
  simp [Lib.join, List.intercalate, List.intersperse]
theorem textP_right (a n : Int) (h : rightB a n = true) : textP a n = decS (a / 2 ^ 24 % 256) ++ ⟨#[46]⟩ ++ decS (a / 2 ^ 16 % 256) ++ ⟨#[46]⟩ ++ decS (a / 2 ^ 8 % 256) ++ ⟨#[46]⟩ ++ decS (a % 256) ++ ⟨#[47]⟩ ++ decS n := by
  unfold textP
  rw [if_pos h]
  have e : partsOf a 4 = [decS (a / 2 ^ 24 % 256), decS (a / 2 ^ 16 % 256), decS (a / 2 ^ 8 % 256), decS (a / 2 ^ 0 % 256)] := rfl
  rw [e, join_four, show (2 : Int) ^ 0 = 1 by decide, Int.ediv_one]
theorem textP_wrong (a n : Int) (h : rightB a n = false) : textP a n = ⟨#[]⟩ := by
  unfold textP
  rw [if_neg (by rw [h]; decide)]
theorem byte_top (a : Int) (h0 : 0 ≤ a) (h1 : a < 4294967296) : wrap64 (a / 16777216) = a / 2 ^ 24 % 256 ∧ 0 ≤ a / 2 ^ 24 % 256 ∧ a / 2 ^ 24 % 256 ≤ 255 := by
  have e : (2 : Int) ^ 24 = 16777216 := by decide
  rw [e, wrap64_id _ (by omega) (by omega)]
  omega
theorem byte_low (a : Int) (h0 : 0 ≤ a) (h1 : a < 4294967296) : wrap64 (bits .and .u32 a 255) = a % 256 ∧ 0 ≤ a % 256 ∧ a % 256 ≤ 255 := by
  have b0 := byte_of a 0 h0 h1
  rw [show (2 : Int) ^ 0 = 1 by decide, Int.ediv_one] at b0
  exact b0
theorem nine_parts (x0 x1 x2 x3 x4 : ByteArray) (s0 : x0.size ≤ 3) (s1 : x1.size ≤ 3) (s2 : x2.size ≤ 3) (s3 : x3.size ≤ 3) (s4 : x4.size ≤ 3) :
    x0.size + 1 ≤ 9223372036854775807 ∧ (x0 ++ (⟨#[46]⟩ : ByteArray)).size + x1.size ≤ 9223372036854775807 ∧ (x0 ++ (⟨#[46]⟩ : ByteArray) ++ x1).size + 1 ≤ 9223372036854775807 ∧ (x0 ++ (⟨#[46]⟩ : ByteArray) ++ x1 ++ (⟨#[46]⟩ : ByteArray)).size + x2.size ≤ 9223372036854775807 ∧ (x0 ++ (⟨#[46]⟩ : ByteArray) ++ x1 ++ (⟨#[46]⟩ : ByteArray) ++ x2).size + 1 ≤ 9223372036854775807 ∧
    (x0 ++ (⟨#[46]⟩ : ByteArray) ++ x1 ++ (⟨#[46]⟩ : ByteArray) ++ x2 ++ (⟨#[46]⟩ : ByteArray)).size + x3.size ≤ 9223372036854775807 ∧ (x0 ++ (⟨#[46]⟩ : ByteArray) ++ x1 ++ (⟨#[46]⟩ : ByteArray) ++ x2 ++ (⟨#[46]⟩ : ByteArray) ++ x3).size + 1 ≤ 9223372036854775807 ∧ (x0 ++ (⟨#[46]⟩ : ByteArray) ++ x1 ++ (⟨#[46]⟩ : ByteArray) ++ x2 ++ (⟨#[46]⟩ : ByteArray) ++ x3 ++ (⟨#[47]⟩ : ByteArray)).size + x4.size ≤ 9223372036854775807 := by
  have z : ∀ b, (⟨#[b]⟩ : ByteArray).size = 1 := fun _ => rfl
  simp only [ByteArray.size_append, z]
  omega
theorem refText_f (k : Nat) (hk : 33 ≤ k) (a n : Int) (h0 : 0 ≤ a) (h1 : a < 4294967296) : BP.signpostref1_Text.f k a n = some (textP a n) := by
  unfold BP.signpostref1_Text.f
  rw [refRight_f k hk a n h0 h1]
  simp only [Option.bind_some]
  cases hr : rightB a n
  · rw [textP_wrong a n hr]
    rfl
  · rw [textP_right a n hr]
    obtain ⟨n0, n1, _⟩ := (right_iff a n).1 hr
    rw [if_pos rfl]
    have b24 := byte_top a h0 h1
    have b16 := byte_of a 16 h0 h1
    have b8 := byte_of a 8 h0 h1
    have b0 := byte_low a h0 h1
    have s0 := dec_short3 _ b24.2.1 b24.2.2
    have s1 := dec_short3 _ b16.2.1 b16.2.2
    have s2 := dec_short3 _ b8.2.1 b8.2.2
    have s3 := dec_short3 _ b0.2.1 b0.2.2
    have s4 := dec_short3 n n0 (by clear b24 b16 b8 b0 s0 s1 s2 s3; omega)
    have e16 : a / 65536 = a / 2 ^ 16 := rfl
    have e8 : a / 256 = a / 2 ^ 8 := rfl
    rw [b24.1, e16, b16.1, e8, b8.1, b0.1]
    unfold BP.signpostref1_digits.f
    rw [if_pos b24.2, if_pos b16.2, if_pos b8.2, if_pos b0.2, if_pos ⟨n0, by clear b24 b16 b8 b0 s0 s1 s2 s3; omega⟩]
    simp only [Option.bind_some, if_true]
    clear b24 b16 b8 b0 e16 e8
    generalize decS (a / 2 ^ 24 % 256) = x0 at *
    generalize decS (a / 2 ^ 16 % 256) = x1 at *
    generalize decS (a / 2 ^ 8 % 256) = x2 at *
    generalize decS (a % 256) = x3 at *
    generalize decS n = x4 at *
    obtain ⟨q0, q1, q2, q3, q4, q5, q6, q7⟩ := nine_parts x0 x1 x2 x3 x4 s0 s1 s2 s3 s4
    rw [if_pos q0, if_pos q1, if_pos q2, if_pos q3, if_pos q4, if_pos q5, if_pos q6, if_pos q7]
end Go.Proofs.YtokfgajfkopelaaDoor.Mine
namespace Go.Proofs.YtokfgajfkopelaaDoor.BP
open Go.RowKit Go.Proofs.YtokfgajfkopelaaDoor.Mine Go.Proofs.YtokfgajfkopelaaDoorW.PrintWords Go.Proofs.YtokfgajfkopelaaDoorW.PrintLast Go.Proofs.YtokfgajfkopelaaDoorW.PrintMore
def signpostref1_TextP.f (a n : Int) : Option ByteArray := if 0 ≤ a ∧ a < 4294967296 then some (textP a n) else none
theorem signpostref1_TextP.calls (a0_0 a0_1 : Int) (r : ByteArray) (w : World) (h : signpostref1_TextP.f a0_0 a0_1 = some r) :
    Calls Tryd.prog 28 #[.agg #[.int .u32 a0_0, .int .i64 a0_1]] w fun e w' => e = .returned (.string r) ∧ Below w.heap.size w w' := by
  unfold signpostref1_TextP.f at h
  split at h
  · rename_i hs
    exact signpostref1_Text.calls 33 a0_0 a0_1 r w ((refText_f 33 (Nat.le_refl _) a0_0 a0_1 hs.1 hs.2).trans h)
  · exact absurd h (by simp)
end Go.Proofs.YtokfgajfkopelaaDoor.BP
namespace Go.Proofs.YtokfgajfkopelaaDoor.Mine
open Go.RowKit Go.Proofs.YtokfgajfkopelaaDoorW.PrintWords Go.Proofs.YtokfgajfkopelaaDoorW.PrintLast Go.Proofs.YtokfgajfkopelaaDoorW.PrintMore
set_option linter.unusedVariables false
set_option linter.unusedSimpArgs false
def splitC (c : UInt8) : List UInt8 → List (List UInt8)
  | [] => [[]]
  | x :: l => if x = c then [] :: splitC c l else (x :: (splitC c l).headD []) :: (splitC c l).tail
theorem splitC_ne (c : UInt8) : ∀ l, splitC c l ≠ []
  | [] => by simp [splitC]
  | x :: l => by unfold splitC; split <;> simp
theorem index_cons (c x : UInt8) (l : List UInt8) : Lib.index (x :: l) [c] = if x = c then 0 else if Lib.index l [c] = -1 then -1 else Lib.index l [c] + 1 := by
  show (if [c].isPrefixOf (x :: l) then (0 : Int) else if Lib.index l [c] == -1 then -1 else Lib.index l [c] + 1) = _
  by_cases h : x = c
  · subst h
    simp
  · have : ¬ c = x := fun e => h e.symm
    simp [h, this]
theorem splitK_count (c : UInt8) : ∀ (s : List UInt8) (k : Nat), k = s.count c → Lib.splitK [c] 0 k s = splitC c s
  | [], k, hk => by
    have : k = 0 := by simpa using hk
    subst this
    rfl
  | x :: l, k, hk => by
    by_cases h : x = c
    · subst h
      rw [List.count_cons_self] at hk
      subst hk
      have ih := splitK_count x l _ rfl
      unfold Lib.splitK splitC
      rw [index_cons, if_pos rfl, if_pos rfl]
      simp [ih]
    · rw [List.count_cons_of_ne (by simpa using h)] at hk
      have ih := splitK_count c l k hk
      have hi := Lib.index_ge l [c]
      cases k with
      | zero =>
        have e : splitC c l = [l] := by rw [← ih]; rfl
        unfold Lib.splitK splitC
        rw [if_neg h, e]
        rfl
      | succ k =>
        unfold Lib.splitK at ih ⊢
        unfold splitC
        rw [if_neg h, index_cons, if_neg h]
        by_cases hm : Lib.index l [c] = -1
        · rw [hm] at ih ⊢
          simp at ih ⊢
          rw [← ih]
          simp
        · have hb : ¬ (Lib.index l [c] == -1) = true := by simpa using hm
          rw [if_neg hb] at ih
          rw [if_neg hm]
          have hb2 : ¬ (Lib.index l [c] + 1 == -1) = true := by simp; omega
          rw [if_neg hb2, ← ih]
          have e1 : (Lib.index l [c] + 1).toNat = (Lib.index l [c]).toNat + 1 := by omega
          rw [e1]
          simp
theorem split_eq (s : ByteArray) (c : UInt8) : (Lib.splitB ⟨#[c]⟩ 0 (Lib.countB s ⟨#[c]⟩) s).map (·.data.toList) = splitC c s.data.toList := by
  rw [Lib.splitB_data]
  exact splitK_count c _ _ (Lib.count_one c _)
theorem splitC_app (c : UInt8) : ∀ (p q : List UInt8), c ∉ p → splitC c (p ++ c :: q) = p :: splitC c q
  | [], q, h => by simp [splitC]
  | x :: p, q, h => by
    have hx : ¬ x = c := fun e => h (by simp [e])
    have ih := splitC_app c p q (fun e => h (by simp [e]))
    show (if x = c then [] :: splitC c (p ++ c :: q) else (x :: (splitC c (p ++ c :: q)).headD []) :: (splitC c (p ++ c :: q)).tail) = _
    rw [if_neg hx, ih]
    rfl
theorem splitC_one (c : UInt8) : ∀ (p : List UInt8), c ∉ p → splitC c p = [p]
  | [], h => rfl
  | x :: p, h => by
    have hx : ¬ x = c := fun e => h (by simp [e])
    unfold splitC
    rw [if_neg hx, splitC_one c p (fun e => h (by simp [e]))]
    rfl
def joinC (c : UInt8) : List (List UInt8) → List UInt8
  | [] => []
  | [x] => x
  | x :: y :: l => x ++ c :: joinC c (y :: l)
theorem joinC_head (c x : UInt8) (p : List UInt8) : ∀ l, joinC c ((x :: p) :: l) = x :: joinC c (p :: l)
  | [] => rfl
  | _ :: _ => rfl
theorem join_splitC (c : UInt8) : ∀ s, joinC c (splitC c s) = s
  | [] => rfl
  | x :: l => by
    have ih := join_splitC c l
    unfold splitC
    obtain ⟨p, r, hp⟩ : ∃ p r, splitC c l = p :: r := by
      cases h : splitC c l with
      | nil => exact absurd h (splitC_ne c l)
      | cons p r => exact ⟨p, r, rfl⟩
    rw [hp] at ih ⊢
    by_cases h : x = c
    · rw [if_pos h]
      show c :: joinC c (p :: r) = _
      rw [ih, h]
    · rw [if_neg h]
      show joinC c ((x :: p) :: r) = _
      rw [joinC_head, ih]
theorem cut_c (c : UInt8) : ∀ s, (Lib.index s [c] = -1 ∧ c ∉ s) ∨ ∃ p q, s = p ++ c :: q ∧ c ∉ p ∧ Lib.index s [c] = (p.length : Int)
  | [] => .inl ⟨rfl, by simp⟩
  | x :: l => by
    rw [index_cons]
    by_cases h : x = c
    · exact .inr ⟨[], l, by simp [h], by simp, by rw [if_pos h]; rfl⟩
    · have hn : ¬ c = x := fun e => h e.symm
      rcases cut_c c l with ⟨hi, hm⟩ | ⟨p, q, rfl, hp, hi⟩
      · exact .inl ⟨by rw [if_neg h, if_pos hi], by simp [hm, hn]⟩
      · refine .inr ⟨x :: p, q, rfl, by simp [hp, hn], ?_⟩
        rw [if_neg h, hi, if_neg (by omega)]
        simp
theorem cut_hit (c : UInt8) (p q : List UInt8) (h : c ∉ p) : Lib.cut (p ++ c :: q) [c] = (p, q, true) := by
  rcases cut_c c (p ++ c :: q) with ⟨_, hm⟩ | ⟨p2, q2, he, hp, hi⟩
  · exact absurd (by simp) hm
  · have e : p = p2 ∧ q = q2 := by
      have h1 := congrArg (splitC c) he
      rw [splitC_app c p q h, splitC_app c p2 q2 hp] at h1
      injection h1 with h1 h2
      subst h1
      exact ⟨rfl, by simpa using he⟩
    obtain ⟨rfl, rfl⟩ := e
    unfold Lib.cut
    rw [hi, if_pos (by omega)]
    simp
theorem cut_miss (c : UInt8) (s : List UInt8) (h : c ∉ s) : Lib.cut s [c] = (s, [], false) := by
  rcases cut_c c s with ⟨hi, _⟩ | ⟨p2, q2, rfl, hp, hi⟩
  · unfold Lib.cut
    rw [hi]
    rfl
  · exact absurd (by simp) h
theorem dec_no (c : UInt8) (hc : c = 46 ∨ c = 47) (x : Int) (h0 : 0 ≤ x) (h1 : x ≤ 255) : c ∉ Lib.itoa x := by
  have h : ∀ j, j < 256 → (46 : UInt8) ∉ Lib.itoa ((j : Nat) : Int) ∧ (47 : UInt8) ∉ Lib.itoa ((j : Nat) : Int) := by decide +kernel
  obtain ⟨j, rfl⟩ := Int.eq_ofNat_of_zero_le h0
  have := h j (by omega)
  rcases hc with rfl | rfl
  · exact this.1
  · exact this.2
theorem numP_dec255 (x : Int) (h0 : 0 ≤ x) (h1 : x ≤ 255) : numP (decS x) 255 = x := by
  have h : ∀ j, j < 256 → numP (decS ((j : Nat) : Int)) 255 = ((j : Nat) : Int) := by decide +kernel
  obtain ⟨j, rfl⟩ := Int.eq_ofNat_of_zero_le h0
  exact h j (by omega)
theorem numP_dec32 (x : Int) (h0 : 0 ≤ x) (h1 : x ≤ 32) : numP (decS x) 32 = x := by
  have h : ∀ j, j < 33 → numP (decS ((j : Nat) : Int)) 32 = ((j : Nat) : Int) := by decide +kernel
  obtain ⟨j, rfl⟩ := Int.eq_ofNat_of_zero_le h0
  exact h j (by omega)
theorem numL_over (most : Int) (l : List UInt8) (n : Int) (h : n > most) : numL most l n = n ∧ l = [] ∨ numL most l n = -1 := by
  cases l with
  | nil => exact .inl ⟨rfl, rfl⟩
  | cons c l =>
    right
    unfold numL
    split
    · rfl
    · split
      · rfl
      · first | rfl | rw [if_pos h]
theorem dec_digits (a : UInt8) (h0 : ¬ a.toNat < 48) (h1 : ¬ 57 < a.toNat) : UInt8.ofNat (48 + (a.toNat - 48)) = a := by
  have : 48 + (a.toNat - 48) = a.toNat := by omega
  rw [this]
  exact UInt8.ofNat_toNat
theorem numP_inv (s : ByteArray) (most : Int) (m0 : 0 ≤ most) (m1 : most ≤ 255) (h : 0 ≤ numP s most) : numP s most ≤ most ∧ s = decS (numP s most) := by
  obtain ⟨l, hl⟩ : ∃ l, s.data.toList = l := ⟨_, rfl⟩
  have hs : s = ⟨l.toArray⟩ := by apply ByteArray.ext; rw [← hl]
  have hsz : s.size = l.length := by rw [hs]; simp [ByteArray.size]
  have hbt : bt s 0 = (l.headD 0).toNat := by
    cases l with
    | nil => rw [hs]; rfl
    | cons a r => rw [hs]; rfl
  have hmore : s.toList = [] ↔ l = [] := by rw [hs, ByteArray.toList_mk]
  have hN : ∀ x, numEnd s most x = if l = [] then -1 else if x > most then -1 else if 1 < l.length ∧ ((l.headD 0).toNat : Int) = 48 then -1 else x := by
    intro x
    unfold numEnd
    rw [hsz, hbt]
    by_cases he : l = []
    · rw [if_pos he, if_pos (hmore.2 he)]
    · rw [if_neg he, if_neg (fun e => he (hmore.1 e))]
  have hd : ∀ v : Nat, Lib.decDigits v = l → (0 ≤ (v : Int)) → decS (v : Int) = s := by
    intro v hv _
    rw [hs]
    unfold decS Lib.itoa
    rw [if_neg (by omega), Int.toNat_natCast, hv]
  unfold numP at h ⊢
  rw [hl] at h ⊢
  rw [hN] at h ⊢
  by_cases he : l = []
  · rw [if_pos he] at h; omega
  rw [if_neg he] at h ⊢
  by_cases h2 : numL most l 0 > most
  · rw [if_pos h2] at h; omega
  rw [if_neg h2] at h ⊢
  by_cases h3 : 1 < l.length ∧ ((l.headD 0).toNat : Int) = 48
  · rw [if_pos h3] at h; omega
  rw [if_neg h3] at h ⊢
  refine ⟨by omega, ?_⟩
  symm
  match l, he with
  | [a], _ =>
    unfold numL at h ⊢
    by_cases a0 : a.toNat < 48
    · rw [if_pos a0] at h; omega
    by_cases a1 : 57 < a.toNat
    · rw [if_neg a0, if_pos a1] at h; omega
    rw [if_neg a0, if_neg a1, if_neg (by omega)] at h ⊢
    unfold numL at h ⊢
    have e : (10 * 0 + ((a.toNat : Int) - 48)) = ((a.toNat - 48 : Nat) : Int) := by omega
    rw [e]
    refine hd _ ?_ (by omega)
    rw [Lib.decDigits, dif_pos (by omega), dec_digits a a0 a1]
  | [a, b], _ =>
    have hz : ¬ (a.toNat : Int) = 48 := fun e => h3 ⟨by simp, by simpa using e⟩
    unfold numL at h h2 ⊢
    by_cases a0 : a.toNat < 48
    · rw [if_pos a0] at h; omega
    by_cases a1 : 57 < a.toNat
    · rw [if_neg a0, if_pos a1] at h; omega
    rw [if_neg a0, if_neg a1, if_neg (by omega)] at h h2 ⊢
    unfold numL at h h2 ⊢
    by_cases b0 : b.toNat < 48
    · rw [if_pos b0] at h; omega
    by_cases b1 : 57 < b.toNat
    · rw [if_neg b0, if_pos b1] at h; omega
    rw [if_neg b0, if_neg b1] at h h2 ⊢
    split at h
    · omega
    rename_i g1
    rw [if_neg g1] at h2 ⊢
    unfold numL at h ⊢
    have e : (10 * (10 * 0 + ((a.toNat : Int) - 48)) + ((b.toNat : Int) - 48)) = ((10 * (a.toNat - 48) + (b.toNat - 48) : Nat) : Int) := by omega
    rw [e]
    refine hd _ ?_ (by omega)
    rw [Lib.decDigits, dif_neg (by omega), show (10 * (a.toNat - 48) + (b.toNat - 48)) / 10 = a.toNat - 48 by omega, show (10 * (a.toNat - 48) + (b.toNat - 48)) % 10 = b.toNat - 48 by omega, Lib.decDigits, dif_pos (by omega), dec_digits a a0 a1, dec_digits b b0 b1]
    rfl
  | [a, b, c], _ =>
    have hz : ¬ (a.toNat : Int) = 48 := fun e => h3 ⟨by simp, by simpa using e⟩
    unfold numL at h h2 ⊢
    by_cases a0 : a.toNat < 48
    · rw [if_pos a0] at h; omega
    by_cases a1 : 57 < a.toNat
    · rw [if_neg a0, if_pos a1] at h; omega
    rw [if_neg a0, if_neg a1, if_neg (by omega)] at h h2 ⊢
    unfold numL at h h2 ⊢
    by_cases b0 : b.toNat < 48
    · rw [if_pos b0] at h; omega
    by_cases b1 : 57 < b.toNat
    · rw [if_neg b0, if_pos b1] at h; omega
    rw [if_neg b0, if_neg b1] at h h2 ⊢
    split at h
    · omega
    rename_i g1
    rw [if_neg g1] at h2 ⊢
    unfold numL at h h2 ⊢
    by_cases c0 : c.toNat < 48
    · rw [if_pos c0] at h; omega
    by_cases c1 : 57 < c.toNat
    · rw [if_neg c0, if_pos c1] at h; omega
    rw [if_neg c0, if_neg c1] at h h2 ⊢
    split at h
    · omega
    rename_i g2
    rw [if_neg g2] at h2 ⊢
    unfold numL at h ⊢
    have e : (10 * (10 * (10 * 0 + ((a.toNat : Int) - 48)) + ((b.toNat : Int) - 48)) + ((c.toNat : Int) - 48)) = ((10 * (10 * (a.toNat - 48) + (b.toNat - 48)) + (c.toNat - 48) : Nat) : Int) := by omega
    rw [e]
    refine hd _ ?_ (by omega)
    rw [Lib.decDigits, dif_neg (by omega), show (10 * (10 * (a.toNat - 48) + (b.toNat - 48)) + (c.toNat - 48)) / 10 = 10 * (a.toNat - 48) + (b.toNat - 48) by omega, show (10 * (10 * (a.toNat - 48) + (b.toNat - 48)) + (c.toNat - 48)) % 10 = c.toNat - 48 by omega, Lib.decDigits, dif_neg (by omega), show (10 * (a.toNat - 48) + (b.toNat - 48)) / 10 = a.toNat - 48 by omega, show (10 * (a.toNat - 48) + (b.toNat - 48)) % 10 = b.toNat - 48 by omega, Lib.decDigits, dif_pos (by omega), dec_digits a a0 a1, dec_digits b b0 b1, dec_digits c c0 c1]
    rfl
  | a :: b :: c :: d :: r, _ =>
    exfalso
    have hz : ¬ (a.toNat : Int) = 48 := fun e => h3 ⟨by simp, by simpa using e⟩
    unfold numL at h h2
    by_cases a0 : a.toNat < 48
    · rw [if_pos a0] at h; omega
    by_cases a1 : 57 < a.toNat
    · rw [if_neg a0, if_pos a1] at h; omega
    rw [if_neg a0, if_neg a1, if_neg (by omega)] at h h2
    unfold numL at h h2
    by_cases b0 : b.toNat < 48
    · rw [if_pos b0] at h; omega
    by_cases b1 : 57 < b.toNat
    · rw [if_neg b0, if_pos b1] at h; omega
    rw [if_neg b0, if_neg b1] at h h2
    split at h
    · omega
    rename_i g1
    rw [if_neg g1] at h2
    unfold numL at h h2
    by_cases c0 : c.toNat < 48
    · rw [if_pos c0] at h; omega
    by_cases c1 : 57 < c.toNat
    · rw [if_neg c0, if_pos c1] at h; omega
    rw [if_neg c0, if_neg c1] at h h2
    split at h
    · omega
    rename_i g2
    rw [if_neg g2] at h2
    unfold numL at h h2
    by_cases d0 : d.toNat < 48
    · rw [if_pos d0] at h; omega
    by_cases d1 : 57 < d.toNat
    · rw [if_neg d0, if_pos d1] at h; omega
    rw [if_neg d0, if_neg d1] at h h2
    split at h
    · omega
    rename_i g3
    rw [if_neg g3] at h2
    rcases numL_over most r (10 * (10 * (10 * (10 * 0 + ((a.toNat : Int) - 48)) + ((b.toNat : Int) - 48)) + ((c.toNat : Int) - 48)) + ((d.toNat : Int) - 48)) (by omega) with ⟨e, _⟩ | e
    · omega
    · omega
end Go.Proofs.YtokfgajfkopelaaDoor.Mine
namespace Go.Proofs.YtokfgajfkopelaaDoor.Mine
open Go.RowKit Go.Proofs.YtokfgajfkopelaaDoorW.PrintWords Go.Proofs.YtokfgajfkopelaaDoorW.PrintLast Go.Proofs.YtokfgajfkopelaaDoorW.PrintMore
set_option linter.unusedVariables false
set_option linter.unusedSimpArgs false
theorem ba_ext {a b : ByteArray} (h : a.data.toList = b.data.toList) : a = b := by
  apply ByteArray.ext
  exact Array.toList_inj.1 h
theorem dec_data (x : Int) : (decS x).data.toList = Lib.itoa x := rfl
theorem stepA_eq (a n : Int) (h0 : 0 ≤ a) (h1 : a < 16777216) (n0 : 0 ≤ n) (n1 : n ≤ 255) : stepA a n = a * 256 + n := by
  unfold stepA
  have e : bits .and .i64 n 255 = n := by
    have h := bits_mask .i64 63 (by decide) (fun x x0 x1 => wrap_small x x0 (by exact x1)) 8 (by decide) n n0 (by rw [show (2 : Int) ^ 63 = 9223372036854775808 by decide]; omega)
    rw [show ((2 : Int) ^ 8 - 1) = 255 by decide, show ((2 : Int) ^ 8) = 256 by decide] at h
    rw [h]
    omega
  rw [e, Int.emod_eq_of_lt (by omega) (by omega), Int.emod_eq_of_lt n0 (by omega)]
  exact bits_join .u32 32 (by decide) (fun x x0 x1 => by rw [IntKind.wrap_u32]; exact Int.emod_eq_of_lt x0 (by exact x1)) 8 (a * 256) n (by omega) (by rw [show ((2 : Int) ^ 8) = 256 by decide]; omega) (by show a * 256 < 4294967296; omega) n0 (by show n < 256; omega) (by show n < 4294967296; omega)
theorem text_list (a n : Int) (h : rightB a n = true) : (textP a n).data.toList = (Lib.itoa (a / 2 ^ 24 % 256) ++ 46 :: (Lib.itoa (a / 2 ^ 16 % 256) ++ 46 :: (Lib.itoa (a / 2 ^ 8 % 256) ++ 46 :: Lib.itoa (a % 256)))) ++ 47 :: Lib.itoa n := by
  rw [textP_right a n h]
  simp [ByteArray.data_append, decS]
theorem splitB_four (h : ByteArray) (a b c d : ByteArray) (he : (Lib.splitB ⟨#[46]⟩ 0 (Lib.countB h ⟨#[46]⟩) h).map (·.data.toList) = [a.data.toList, b.data.toList, c.data.toList, d.data.toList]) : Lib.splitB ⟨#[46]⟩ 0 (Lib.countB h ⟨#[46]⟩) h = [a, b, c, d] := by
  generalize Lib.splitB ⟨#[46]⟩ 0 (Lib.countB h ⟨#[46]⟩) h = L at *
  match L with
  | [x, y, z, u] =>
    simp only [List.map_cons, List.map_nil, List.cons.injEq, and_true] at he
    rw [ba_ext he.1, ba_ext he.2.1, ba_ext he.2.2.1, ba_ext he.2.2.2]
  | [] => simp at he
  | [x] => simp at he
  | [x, y] => simp at he
  | [x, y, z] => simp at he
  | x :: y :: z :: u :: v :: r => simp at he
theorem parse_text (a n : Int) (h0 : 0 ≤ a) (h1 : a < 4294967296) (hr : rightB a n = true) : parseP (textP a n) = (a, n, true) := by
  obtain ⟨n0, n1, _⟩ := (right_iff a n).1 hr
  have b24 := (byte_top a h0 h1).2
  have b16 := (byte_of a 16 h0 h1).2
  have b8 := (byte_of a 8 h0 h1).2
  have b0 := (byte_low a h0 h1).2
  have hA : a = ((a / 2 ^ 24 % 256 * 256 + a / 2 ^ 16 % 256) * 256 + a / 2 ^ 8 % 256) * 256 + a % 256 := by
    clear b24 b16 b8 b0
    have e24 : (2 : Int) ^ 24 = 16777216 := by decide
    have e16 : (2 : Int) ^ 16 = 65536 := by decide
    have e8 : (2 : Int) ^ 8 = 256 := by decide
    rw [e24, e16, e8]
    omega
  have ht := text_list a n hr
  unfold parseP
  rw [ht]
  generalize a / 2 ^ 24 % 256 = x0 at *
  generalize a / 2 ^ 16 % 256 = x1 at *
  generalize a / 2 ^ 8 % 256 = x2 at *
  generalize a % 256 = x3 at *
  have m47 : (47 : UInt8) ∉ Lib.itoa x0 ++ 46 :: (Lib.itoa x1 ++ 46 :: (Lib.itoa x2 ++ 46 :: Lib.itoa x3)) := by
    have := dec_no 47 (.inr rfl) x0 b24.1 b24.2
    have := dec_no 47 (.inr rfl) x1 b16.1 b16.2
    have := dec_no 47 (.inr rfl) x2 b8.1 b8.2
    have := dec_no 47 (.inr rfl) x3 b0.1 b0.2
    simp [*]
  rw [cut_hit 47 _ _ m47]
  have hsp := split_eq ⟨(Lib.itoa x0 ++ 46 :: (Lib.itoa x1 ++ 46 :: (Lib.itoa x2 ++ 46 :: Lib.itoa x3))).toArray⟩ 46
  rw [splitC_app 46 _ _ (dec_no 46 (.inl rfl) x0 b24.1 b24.2), splitC_app 46 _ _ (dec_no 46 (.inl rfl) x1 b16.1 b16.2), splitC_app 46 _ _ (dec_no 46 (.inl rfl) x2 b8.1 b8.2), splitC_one 46 _ (dec_no 46 (.inl rfl) x3 b0.1 b0.2)] at hsp
  have hL := splitB_four _ (decS x0) (decS x1) (decS x2) (decS x3) hsp
  simp only
  rw [hL]
  have hn : numP ⟨(Lib.itoa n).toArray⟩ 32 = n := numP_dec32 n n0 n1
  rw [hn]
  simp only [List.all_cons, List.all_nil, List.foldl_cons, List.foldl_nil, List.length_cons, List.length_nil]
  rw [numP_dec255 x0 b24.1 b24.2, numP_dec255 x1 b16.1 b16.2, numP_dec255 x2 b8.1 b8.2, numP_dec255 x3 b0.1 b0.2]
  have hz : stepA (stepA (stepA (stepA 0 x0) x1) x2) x3 = a := by
    rw [stepA_eq 0 x0 (by omega) (by omega) b24.1 b24.2, stepA_eq _ x1 (by omega) (by omega) b16.1 b16.2, stepA_eq _ x2 (by omega) (by omega) b8.1 b8.2, stepA_eq _ x3 (by omega) (by omega) b0.1 b0.2]
    omega
  rw [hz]
  unfold parseEnd
  have hok : (true && (decide (0 ≤ x0) && (decide (0 ≤ x1) && (decide (0 ≤ x2) && (decide (0 ≤ x3) && true))))) = true := by
    simp
    omega
  rw [if_pos hok, if_pos rfl, if_pos hr]
theorem parseEnd_cases (ok : Bool) (l : Nat) (a n : Int) : parseEnd ok l a n = (0, 0, false) ∨ (ok = true ∧ l = 4 ∧ rightB a n = true ∧ parseEnd ok l a n = (a, n, true)) := by
  unfold parseEnd
  by_cases h1 : ok = true
  · rw [if_pos h1]
    by_cases h2 : l = 4
    · rw [if_pos h2]
      by_cases h3 : rightB a n = true
      · rw [if_pos h3]
        exact .inr ⟨h1, h2, h3, rfl⟩
      · rw [if_neg h3]
        exact .inl rfl
    · rw [if_neg h2]
      exact .inl rfl
  · rw [if_neg h1]
    exact .inl rfl
theorem parse_cases (s : ByteArray) : parseP s = (0, 0, false) ∨ ∃ a n, 0 ≤ a ∧ a < 4294967296 ∧ rightB a n = true ∧ parseP s = (a, n, true) ∧ textP a n = s := by
  unfold parseP
  rcases cut_c 47 s.data.toList with ⟨_, hm⟩ | ⟨p, q, hs, hp, _⟩
  · rw [cut_miss 47 _ hm]
    left
    rfl
  · have hc := cut_hit 47 p q hp
    rw [← hs] at hc
    rw [hc]
    simp only
    have hsp := split_eq ⟨p.toArray⟩ 46
    have hjoin := join_splitC 46 p
    have hd : (⟨p.toArray⟩ : ByteArray).data.toList = p := rfl
    rw [hd] at hsp
    rw [← hsp] at hjoin
    generalize Lib.splitB ⟨#[46]⟩ 0 (Lib.countB ⟨p.toArray⟩ ⟨#[46]⟩) ⟨p.toArray⟩ = L at *
    rcases parseEnd_cases (true && L.all (fun x => decide (0 ≤ numP x 255))) L.length (L.foldl (fun a x => stepA a (numP x 255)) 0) (numP ⟨q.toArray⟩ 32) with h | ⟨hok, h4, hr, he⟩
    · exact .inl h
    · right
      obtain ⟨n0, n1, _⟩ := (right_iff _ _).1 hr
      have hq := (numP_inv ⟨q.toArray⟩ 32 (by omega) (by omega) n0).2
      match L, h4 with
      | [x0, x1, x2, x3], _ =>
        simp only [List.all_cons, List.all_nil, Bool.true_and, Bool.and_true, Bool.and_eq_true, decide_eq_true_eq] at hok
        obtain ⟨k0, k1, k2, k3⟩ := hok
        obtain ⟨l0, e0⟩ := numP_inv x0 255 (by omega) (by omega) k0
        obtain ⟨l1, e1⟩ := numP_inv x1 255 (by omega) (by omega) k1
        obtain ⟨l2, e2⟩ := numP_inv x2 255 (by omega) (by omega) k2
        obtain ⟨l3, e3⟩ := numP_inv x3 255 (by omega) (by omega) k3
        have hz : [x0, x1, x2, x3].foldl (fun a x => stepA a (numP x 255)) 0 = ((numP x0 255 * 256 + numP x1 255) * 256 + numP x2 255) * 256 + numP x3 255 := by
          simp only [List.foldl_cons, List.foldl_nil]
          rw [stepA_eq 0 _ (by omega) (by omega) k0 l0, stepA_eq _ _ (by omega) (by omega) k1 l1, stepA_eq _ _ (by omega) (by omega) k2 l2, stepA_eq _ _ (by omega) (by omega) k3 l3]
          omega
        rw [hz] at he hr ⊢
        refine ⟨_, _, by omega, by omega, hr, he, ?_⟩
        apply ba_ext
        rw [text_list _ _ hr]
        have e24 : (2 : Int) ^ 24 = 16777216 := by decide
        have e16 : (2 : Int) ^ 16 = 65536 := by decide
        have e8 : (2 : Int) ^ 8 = 256 := by decide
        rw [e24, e16, e8]
        have g0 : (((numP x0 255 * 256 + numP x1 255) * 256 + numP x2 255) * 256 + numP x3 255) / 16777216 % 256 = numP x0 255 := by omega
        have g1 : (((numP x0 255 * 256 + numP x1 255) * 256 + numP x2 255) * 256 + numP x3 255) / 65536 % 256 = numP x1 255 := by omega
        have g2 : (((numP x0 255 * 256 + numP x1 255) * 256 + numP x2 255) * 256 + numP x3 255) / 256 % 256 = numP x2 255 := by omega
        have g3 : (((numP x0 255 * 256 + numP x1 255) * 256 + numP x2 255) * 256 + numP x3 255) % 256 = numP x3 255 := by omega
        rw [g0, g1, g2, g3, ← dec_data, ← dec_data, ← dec_data, ← dec_data, ← dec_data, ← e0, ← e1, ← e2, ← e3, ← hq, hs]
        rw [← hjoin]
        rfl
end Go.Proofs.YtokfgajfkopelaaDoor.Mine
namespace Go.Proofs.YtokfgajfkopelaaDoor.Mine
open Go.RowKit Go.Proofs.YtokfgajfkopelaaDoorW.PrintWords Go.Proofs.YtokfgajfkopelaaDoorW.PrintLast Go.Proofs.YtokfgajfkopelaaDoorW.PrintMore
set_option linter.unusedVariables false
set_option linter.unusedSimpArgs false
theorem wf_u32 {a : Int} (h : (Lit.int .u32 a).wf = true) : 0 ≤ a ∧ a < 4294967296 := by
  simp [Lit.wf, IntKind.min, IntKind.max, IntKind.bits, IntKind.signed] at h
  omega
theorem wf_i64 {a : Int} (h : (Lit.int .i64 a).wf = true) : -9223372036854775808 ≤ a ∧ a ≤ 9223372036854775807 := by
  simp [Lit.wf, IntKind.min, IntKind.max, IntKind.bits, IntKind.signed] at h
  omega
theorem tmod33 (n : Int) : Int.tmod n 33 = if 0 ≤ n then n % 33 else -((-n) % 33) := by
  by_cases h : 0 ≤ n
  · rw [if_pos h, Int.tmod_eq_emod_of_nonneg h]
  · rw [if_neg h]
    have : n = -(-n) := by omega
    conv => lhs; rw [this, Int.neg_tmod]
    rw [Int.tmod_eq_emod_of_nonneg (by omega)]
theorem within_f (n : Int) (h0 : -9223372036854775808 ≤ n) (h1 : n ≤ 9223372036854775807) : BP.signpostbook_Within.f n 0 32 = some (n % 33) := by
  unfold BP.signpostbook_Within.f
  have e : wrap64 (wrap64 (32 - 0) + 1) = 33 := by rw [wrap64_id (32 - 0) (by omega) (by omega), wrap64_id _ (by omega) (by omega)]; rfl
  rw [e, if_neg (by decide), tmod33]
  by_cases h : 0 ≤ n
  · rw [if_pos h, if_neg (by omega), Int.zero_add, wrap64_id _ (by omega) (by omega)]
  · rw [if_neg h]
    by_cases hz : -(-n % 33) < 0
    · rw [if_pos hz, wrap64_id (-(-n % 33) + 32) (by omega) (by omega), wrap64_id (-(-n % 33) + 32 - 0) (by omega) (by omega), wrap64_id (-(-n % 33) + 32 - 0 + 1) (by omega) (by omega), wrap64_id _ (by omega) (by omega)]
      congr 1
      omega
    · rw [if_neg hz, wrap64_id _ (by omega) (by omega)]
      congr 1
      omega
theorem any_f (k : Nat) (hk : 33 ≤ k) (a n : Int) (a0 : 0 ≤ a) (a1 : a < 4294967296) (h0 : -9223372036854775808 ≤ n) (h1 : n ≤ 9223372036854775807) : BP.signpostkeep_Any.f k a n = some (cutI a (n % 33), n % 33) := by
  unfold BP.signpostkeep_Any.f
  rw [within_f n h0 h1]
  simp only [Option.bind_some]
  rw [refOf_f k hk a _ a0 a1, clampI_in (n % 33) (by omega) (by omega)]
  rfl
theorem any_is (a n : Int) (a0 : 0 ≤ a) (a1 : a < 4294967296) : ∃ b m, cutI a (n % 33) = b ∧ n % 33 = m ∧ 0 ≤ b ∧ b < 4294967296 ∧ 0 ≤ m ∧ m ≤ 32 ∧ rightB b m = true := by
  have h := cutI_range a (n % 33) a0 a1
  exact ⟨_, _, rfl, rfl, h.1, h.2.2, by omega, by omega, right_cut a _ (by omega) (by omega)⟩
end Go.Proofs.YtokfgajfkopelaaDoor.Mine
namespace Go.Proofs.YtokfgajfkopelaaDoor.Mine
open Go.RowKit Go.Proofs.YtokfgajfkopelaaDoorW.PrintWords Go.Proofs.YtokfgajfkopelaaDoorW.PrintLast Go.Proofs.YtokfgajfkopelaaDoorW.PrintMore
set_option linter.unusedVariables false
set_option linter.unusedSimpArgs false
theorem lessB_iff (a n b m : Int) (hp : rightB a n = true) (hq : rightB b m = true) : lessB a n b m = decide (a < b ∨ a = b ∧ n < m) := by
  unfold lessB
  rw [hp, hq]
  by_cases h1 : a < b <;> by_cases h2 : a = b <;> by_cases h3 : n < m <;> simp [h1, h2, h3]
theorem coversB_iff (a n b m : Int) (hp : rightB a n = true) (hq : rightB b m = true) : coversB a n b m = true ↔ cutI b n = a ∧ n ≤ m := by
  unfold coversB hasB
  rw [hp, hq]
  simp
theorem hasB_iff (a n x : Int) (hp : rightB a n = true) : hasB a n x = true ↔ cutI x n = a := by
  unfold hasB
  rw [hp]
  simp
theorem cut_block (a n x : Int) (h : a % lo n = 0) : cutI x n = a ↔ a ≤ x ∧ x < a + lo n := by
  unfold cutI
  have hp := lo_pos n
  have e1 := Int.emod_nonneg x (Int.ne_of_gt hp)
  have e2 := Int.emod_lt_of_pos x hp
  constructor
  · intro e
    omega
  · intro ⟨h1, h2⟩
    have e : x % lo n = (x - a) % lo n := by
      have hx : x = (x - a) + a := by omega
      have := Int.add_emod (x - a) a (lo n)
      rw [← hx, h, Int.add_zero, Int.emod_emod_of_dvd _ (Int.dvd_refl _)] at this
      exact this
    rw [e, Int.emod_eq_of_lt (by omega) (by omega)]
    omega
theorem covers_less (a n b m : Int) (hp : rightB a n = true) (hq : rightB b m = true) (h : coversB a n b m = true) : a ≤ b ∧ n ≤ m := by
  obtain ⟨h1, h2⟩ := (coversB_iff a n b m hp hq).1 h
  have := (cut_block a n b ((right_iff a n).1 hp).2.2).1 h1
  exact ⟨this.1, h2⟩
theorem covers_between (a n b m c k : Int) (hp : rightB a n = true) (hq : rightB b m = true) (hr : rightB c k = true) (h : coversB a n c k = true) (h1 : a < b ∨ a = b ∧ n < m) (h2 : b < c ∨ b = c ∧ m < k) : coversB a n b m = true := by
  obtain ⟨p0, p1, p2⟩ := (right_iff a n).1 hp
  obtain ⟨q0, q1, q2⟩ := (right_iff b m).1 hq
  have hc := (cut_block a n c p2).1 ((coversB_iff a n c k hp hr).1 h).1
  refine (coversB_iff a n b m hp hq).2 ⟨(cut_block a n b p2).2 ⟨by omega, by omega⟩, ?_⟩
  rcases h1 with h1 | h1
  · by_cases hn : n ≤ m
    · exact hn
    · exfalso
      have hd : b % lo n = 0 := by
        obtain ⟨z, hz⟩ := lo_dvd m n (by omega) p1
        have := Int.emod_emod_of_dvd b (lo_dvd m n (by omega) p1)
        rw [q2] at this
        simpa using this.symm
      have e := (cut_block b n b hd).2 ⟨by omega, by have := lo_pos n; omega⟩
      have e2 := (cut_block a n b p2).2 ⟨by omega, by omega⟩
      omega
  · omega
theorem meet_spec (a b : Int) (a0 : 0 ≤ a) (a1 : a < 4294967296) (b0 : 0 ≤ b) (b1 : b < 4294967296) : ∀ t : Nat, ∃ s : Nat, s ≤ t ∧ meetN a b t = (cutI a s, (s : Int)) ∧ cutI a s = cutI b s ∧ ∀ u : Nat, u ≤ t → cutI a u = cutI b u → u ≤ s
  | 0 => ⟨0, Nat.le_refl _, by rw [show ((0 : Nat) : Int) = 0 from rfl, cutI_zero a a0 a1]; rfl, by rw [show ((0 : Nat) : Int) = 0 from rfl, cutI_zero a a0 a1, cutI_zero b b0 b1], fun u hu _ => hu⟩
  | t + 1 => by
    by_cases h : cutI a ((t + 1 : Nat) : Int) = cutI b ((t + 1 : Nat) : Int)
    · exact ⟨t + 1, Nat.le_refl _, by simp only [meetN]; rw [if_pos h], h, fun u hu _ => hu⟩
    · obtain ⟨s, hs, he, hc, hm⟩ := meet_spec a b a0 a1 b0 b1 t
      refine ⟨s, by omega, by simp only [meetN]; rw [if_neg h]; exact he, hc, fun u hu hq => ?_⟩
      by_cases hu2 : u = t + 1
      · subst hu2
        exact absurd hq h
      · exact hm u (by omega) hq
theorem meetP_spec (a n b m : Int) (a0 : 0 ≤ a) (a1 : a < 4294967296) (b0 : 0 ≤ b) (b1 : b < 4294967296) (hp : rightB a n = true) (hq : rightB b m = true) :
    ∃ s : Int, 0 ≤ s ∧ s ≤ n ∧ s ≤ m ∧ s ≤ 32 ∧ meetP a n b m = (cutI a s, s) ∧ cutI a s = cutI b s ∧ (∀ u : Int, 0 ≤ u → u ≤ n → u ≤ m → cutI a u = cutI b u → u ≤ s) ∧ 0 ≤ cutI a s ∧ cutI a s < 4294967296 ∧ rightB (cutI a s) s = true := by
  obtain ⟨p0, p1, p2⟩ := (right_iff a n).1 hp
  obtain ⟨q0, q1, q2⟩ := (right_iff b m).1 hq
  obtain ⟨s, hs, he, hc, hm⟩ := meet_spec a b a0 a1 b0 b1 (min n m).toNat
  have hr := cutI_range a (s : Int) a0 a1
  refine ⟨s, by omega, by omega, by omega, by omega, ?_, hc, ?_, hr.1, hr.2.2, right_cut a _ (by omega) (by omega)⟩
  · unfold meetP
    rw [if_pos hp, if_pos hq, he]
  · intro u u0 u1 u2 hu
    obtain ⟨v, rfl⟩ := Int.eq_ofNat_of_zero_le u0
    have := hm v (by omega) hu
    omega
theorem right_own (a n : Int) (hp : rightB a n = true) : cutI a n = a := cutI_id a n ((right_iff a n).1 hp).2.2
end Go.Proofs.YtokfgajfkopelaaDoor.Mine
namespace Go.Proofs.YtokfgajfkopelaaDoor.BP
open Go.Proofs.YtokfgajfkopelaaDoor.Mine
open Go.RowKit Go.Proofs.YtokfgajfkopelaaDoorW.PrintWords Go.Proofs.YtokfgajfkopelaaDoorW.PrintLast Go.Proofs.YtokfgajfkopelaaDoorW.PrintMore
attribute [local go_sem] max2_int min2_int max_two min_two max_three min_three max_four min_four
set_option linter.unusedVariables false
set_option linter.unusedSimpArgs false
mutual
def signpostref1_Parse.l0 : Nat → ByteArray → ByteArray → Int → Int → Int → Option (Int × Int × Bool)
 | 0, _, _, _, _, _ => none
 | k + 1, x0, x4, x6, x107000, x107001 => if x6 < 5 then (if x6 = 3 then (signpostref1_Parse.j1 k x0 x4 x6 47 x107000 x107001) else (if x6 = 4 then (signpostref1_Parse.j1 k x0 x4 x6 33 x107000 x107001) else (signpostref1_Parse.j1 k x0 x4 x6 46 x107000 x107001))) else (if x0.toList = ([] : List UInt8) then ((signpostref1_TextP.f x107000 x107001).bind fun t107 => (if t107.toList = x4.toList then (some (x107000, x107001, true)) else (some (0, 0, false)))) else (some (0, 0, false)))
def signpostref1_Parse.j1 : Nat → ByteArray → ByteArray → Int → Int → Int → Int → Option (Int × Int × Bool)
 | 0, _, _, _, _, _, _ => none
 | k + 1, x0, x4, x6, x7, x107000, x107001 => (signpostref1_number.f k x0 x7).bind fun bt108 => (if bt108.2.2 = true then (signpostref1_Parse.j2 k x4 x6 bt108.1 bt108.2.1 (decide (bt108.1 > 255)) x107000 x107001) else (signpostref1_Parse.j2 k x4 x6 bt108.1 bt108.2.1 true x107000 x107001))
def signpostref1_Parse.j2 : Nat → ByteArray → Int → Int → ByteArray → Bool → Int → Int → Option (Int × Int × Bool)
 | 0, _, _, _, _, _, _, _ => none
 | k + 1, x4, x6, x8, x9, x35, x107000, x107001 => if x35 = true then (some (0, 0, false)) else (if x6 < 4 then (signpostref1_Parse.l0 k x9 x4 (wrap64 (x6 + 1)) (Go.bits .or .u32 ((x107000 * 256) % 4294967296) ((x8) % 4294967296)) x107001) else (signpostref1_Parse.l0 k x9 x4 (wrap64 (x6 + 1)) x107000 x8))
end
def signpostref1_Parse.f (k : Nat) (a0 : ByteArray) : Option (Int × Int × Bool) := if a0.size + 1 ≤ 9223372036854775807 then (signpostref1_Parse.l0 k (a0 ++ (⟨#[33]⟩ : ByteArray)) a0 0 0 0) else (none)
set_option maxHeartbeats 8000000 in
set_option maxRecDepth 100000 in
theorem signpostref1_Parse.calls (k : Nat) (a0 : ByteArray) (r1 : Int) (r2 : Int) (r3 : Bool) (w : World) (h : signpostref1_Parse.f k a0 = some (r1, r2, r3)) :
 Calls Tryd.prog 42 #[.string a0] w fun e w' => e = .returned (.tuple #[.agg #[.int .u32 r1, .int .i64 r2], .bool r3]) ∧ Below w.heap.size w w' := by
 have hu24 := Tryd.underlying24
 have HB := Aside0.mk (Below.refl w.heap.size w)
 have H : (if a0.size + 1 ≤ 9223372036854775807 then (signpostref1_Parse.l0 k (a0 ++ (⟨#[33]⟩ : ByteArray)) a0 0 0 0) else (none)) = some (r1, r2, r3) := h
 clear h
 by_cases c2 : a0.size + 1 ≤ 9223372036854775807
 ·rw [if_pos c2] at H
  have c2b0 := eq_true c2
  have c2b1 : decide (a0.size + 1 ≤ 9223372036854775807) = true := decide_eq_true c2
  try have c2b2 : (9223372036854775807 < a0.size + 1) = False := eq_false (Nat.not_lt.2 c2)
  have H' := Aside0.mk H
  clear H
  go_enter Tryd.func42, Tryd.ntmps42
  go_wp2_with (first | ((with_reducible refine gate_dst (N := 2) rfl ?_); refine box_event ?hg (N := 2) ?hd (cs := #[.int .u32 0, .int .i64 0]) (t := 24) ?hr ?_; (case hd => rfl); (case hg => rfl); (case hr => first | (go_simp; done) | (go_simp; rfl)); intro gb105 hg w3 hbox hb; have n0_ := Aside0.mk (below_step (by repeat (first | (with_reducible first | exact HB.out | apply below_alloc | apply pw_below_drewN | apply below_drew1) | exact HB.out)) hb); have n1_ := Aside0.mk (hbox); have n2_ := Aside0.mk ((by rw [hg]; exact (below_size (by repeat (first | (with_reducible first | exact HB.out | apply below_alloc | apply pw_below_drewN | apply below_drew1) | exact HB.out))) : w.heap.size ≤ gb105)); have n3_ := Aside0.mk ((by rw [hg]; exact (below_size (by repeat (first | (with_reducible first | exact HB.out | apply below_alloc | apply pw_below_drewN | apply below_drew1) | exact HB.out))) : w.heap.size ≤ gb105)); clear HB; have HB := n0_; have BK105 := n1_; have GW105 := n2_; have GE105 := n3_; clear n0_ n1_ n2_ n3_; clear hb hbox hg) | ((with_reducible refine gate_dst (N := 5) rfl ?_); refine box_event ?hg (N := 5) ?hd (cs := #[.int .u32 0, .int .i64 0]) (t := 24) ?hr ?_; (case hd => rfl); (case hg => rfl); (case hr => first | (go_simp; done) | (go_simp; rfl)); intro gb106 hg w4 hbox hb; have n0_ := Aside0.mk (blk_below (g := gb105) (o := .cells #[.int .u32 0, .int .i64 0] 24 (0, 0)) (by (with_reducible repeat (first | refine blk_drewN ?_ _ | refine blk_drew ?_ | refine blk_alloc ?_ _)); exact BK105.out) hb); have n1_ := Aside0.mk (below_step (by repeat (first | (with_reducible first | exact HB.out | apply below_alloc | apply pw_below_drewN | apply below_drew1 | refine below_set ?_ GE105.out) | exact HB.out)) hb); have n2_ := Aside0.mk (hbox); have n3_ := Aside0.mk ((by rw [hg]; exact (below_size (by repeat (first | (with_reducible first | exact HB.out | apply below_alloc | apply pw_below_drewN | apply below_drew1 | refine below_set ?_ GE105.out) | exact HB.out))) : w.heap.size ≤ gb106)); have n4_ := Aside0.mk ((by rw [hg]; exact (below_size (by repeat (first | (with_reducible first | exact HB.out | apply below_alloc | apply pw_below_drewN | apply below_drew1 | refine below_set ?_ GE105.out) | exact HB.out))) : w.heap.size ≤ gb106)); have n5_ := Aside0.mk ((by rw [hg]; exact Nat.ne_of_lt (blk_lt (g := gb105) (o := .cells #[.int .u32 0, .int .i64 0] 24 (0, 0)) (by (with_reducible repeat (first | refine blk_drewN ?_ _ | refine blk_drew ?_ | refine blk_alloc ?_ _)); exact BK105.out)) : gb105 ≠ gb106)); have n6_ := Aside0.mk ((by rw [hg]; exact Nat.ne_of_gt (blk_lt (g := gb105) (o := .cells #[.int .u32 0, .int .i64 0] 24 (0, 0)) (by (with_reducible repeat (first | refine blk_drewN ?_ _ | refine blk_drew ?_ | refine blk_alloc ?_ _)); exact BK105.out)) : gb106 ≠ gb105)); clear BK105; clear HB; have BK105 := n0_; have HB := n1_; have BK106 := n2_; have GW106 := n3_; have GE106 := n4_; have NB105_106 := n5_; have NB106_105 := n6_; clear n0_ n1_ n2_ n3_ n4_ n5_ n6_; clear hb hbox hg))
  go_loopg [0, 6] k (fun kq v0 v6 w' => ∃ (x0_1 : ByteArray) (x6_1 : Int) (x106000_1 : Int) (x106001_1 : Int) (x107000_1 : Int) (x107001_1 : Int), v0 = .string x0_1 ∧ v6 = .int .i64 x6_1 ∧ Aside0 (signpostref1_Parse.l0 kq x0_1 a0 x6_1 x107000_1 x107001_1 = some (r1, r2, r3)) ∧ Aside0 (kq ≤ k) ∧ Aside0 (w'.heap[gb105]? = some (.cells #[.int .u32 x106000_1, .int .i64 x106001_1] 24 (0, 0))) ∧ Aside0 (w'.heap[gb106]? = some (.cells #[.int .u32 x107000_1, .int .i64 x107001_1] 24 (0, 0))) ∧ Aside0 (Below w.heap.size w w'))
  case atStart => exact ⟨(a0 ++ (⟨#[33]⟩ : ByteArray)), (0), (0), (0), (0), (0), (by first | rfl | (simp; done) | (simp [*]; done)), (by first | rfl | (simp; done) | (simp [*]; done)), H', ⟨Nat.le_refl _⟩, ⟨by (with_reducible repeat (first | refine blk_drewN ?_ _ | refine blk_drew ?_ | refine blk_alloc ?_ _)); exact BK105.out⟩, ⟨by (with_reducible repeat (first | refine blk_drewN ?_ _ | refine blk_drew ?_ | refine blk_alloc ?_ _)); exact BK106.out⟩, ⟨by repeat (first | (with_reducible first | exact HB.out | apply below_alloc | apply pw_below_drewN | apply below_drew1 | refine below_set ?_ GE105.out | refine below_set ?_ GE106.out) | exact HB.out)⟩⟩
  case round =>
   clear H'
   try clear c2
   try clear c2b0
   try clear c2b1
   try clear c2b2
   try clear p2
   try clear c4
   obtain ⟨x0_1, x6_1, x106000_1, x106001_1, x107000_1, x107001_1, rfl, rfl, HA, HK1, BK105, BK106, HB⟩ := hrel
   cases gk with
   | zero => exact absurd HA.out (by simp [signpostref1_Parse.l0])
   | succ k1 =>
    have H := HA.out
    clear HA
    simp only [signpostref1_Parse.l0] at H
    by_cases c5 : x6_1 < 5
    ·rw [if_pos c5] at H
     have c5b0 : decide (x6_1 < 5) = true := decide_eq_true c5
     clear c5
     have HC6 := Aside0.mk H
     clear H
     go_upto_block 2 with (fail)
     go_cut [7] (fun v7 wc => ∃ (kq : Nat) (x7_5 : Int), v7 = .int .u8 x7_5 ∧ Aside0 (signpostref1_Parse.j1 kq x0_1 a0 x6_1 x7_5 x107000_1 x107001_1 = some (r1, r2, r3)) ∧ Aside0 (kq ≤ k1) ∧ Aside0 (wc.heap[gb105]? = some (.cells #[.int .u32 x106000_1, .int .i64 x106001_1] 24 (0, 0))) ∧ Aside0 (wc.heap[gb106]? = some (.cells #[.int .u32 x107000_1, .int .i64 x107001_1] 24 (0, 0))) ∧ Aside0 (Below w.heap.size w wc))
     case first =>
      have H := HC6.out
      clear HC6
      by_cases c7 : x6_1 = 3
      ·rw [if_pos c7] at H
       have c7b0 : (x6_1 == 3) = true := beq_iff_eq.mpr c7
       have c7b1 : (x6_1 != 3) = false := bne_eq_false_iff_eq.mpr c7
       clear c7
       (first | rw [c7b0] | (simp only [i64_w, i32_w]; rw [c7b0]) | skip)
       have H' := Aside0.mk H
       clear H
       go_wp2
       go_meet
       case rel => exact ⟨_, (47), (by first | rfl | (simp; done) | (simp [*]; done)), H', ⟨by have := HK1.out; first | omega | exact Nat.le_refl _⟩, ⟨by (with_reducible repeat (first | refine blk_drewN ?_ _ | refine blk_drew ?_ | refine blk_alloc ?_ _)); exact BK105.out⟩, ⟨by (with_reducible repeat (first | refine blk_drewN ?_ _ | refine blk_drew ?_ | refine blk_alloc ?_ _)); exact BK106.out⟩, ⟨by repeat (first | (with_reducible first | exact HB.out | apply below_alloc | apply pw_below_drewN | apply below_drew1 | refine below_set ?_ GE105.out | refine below_set ?_ GE106.out) | exact HB.out)⟩⟩
      ·rw [if_neg c7] at H
       have c7b0 : (x6_1 == 3) = false := beq_eq_false_iff_ne.mpr c7
       have c7b1 : (x6_1 != 3) = true := bne_iff_ne.mpr c7
       (first | rw [c7b0] | (simp only [i64_w, i32_w]; rw [c7b0]) | skip)
       by_cases c8 : x6_1 = 4
       ·rw [if_pos c8] at H
        have c8b0 : (x6_1 == 4) = true := beq_iff_eq.mpr c8
        have c8b1 : (x6_1 != 4) = false := bne_eq_false_iff_eq.mpr c8
        clear c8
        have H' := Aside0.mk H
        clear H
        go_wp2
        go_meet
        case rel => exact ⟨_, (33), (by first | rfl | (simp; done) | (simp [*]; done)), H', ⟨by have := HK1.out; first | omega | exact Nat.le_refl _⟩, ⟨by (with_reducible repeat (first | refine blk_drewN ?_ _ | refine blk_drew ?_ | refine blk_alloc ?_ _)); exact BK105.out⟩, ⟨by (with_reducible repeat (first | refine blk_drewN ?_ _ | refine blk_drew ?_ | refine blk_alloc ?_ _)); exact BK106.out⟩, ⟨by repeat (first | (with_reducible first | exact HB.out | apply below_alloc | apply pw_below_drewN | apply below_drew1 | refine below_set ?_ GE105.out | refine below_set ?_ GE106.out) | exact HB.out)⟩⟩
       ·rw [if_neg c8] at H
        have c8b0 : (x6_1 == 4) = false := beq_eq_false_iff_ne.mpr c8
        have c8b1 : (x6_1 != 4) = true := bne_iff_ne.mpr c8
        have H' := Aside0.mk H
        clear H
        go_wp2
        go_meet
        case rel => exact ⟨_, (46), (by first | rfl | (simp; done) | (simp [*]; done)), H', ⟨by have := HK1.out; first | omega | exact Nat.le_refl _⟩, ⟨by (with_reducible repeat (first | refine blk_drewN ?_ _ | refine blk_drew ?_ | refine blk_alloc ?_ _)); exact BK105.out⟩, ⟨by (with_reducible repeat (first | refine blk_drewN ?_ _ | refine blk_drew ?_ | refine blk_alloc ?_ _)); exact BK106.out⟩, ⟨by repeat (first | (with_reducible first | exact HB.out | apply below_alloc | apply pw_below_drewN | apply below_drew1 | refine below_set ?_ GE105.out | refine below_set ?_ GE106.out) | exact HB.out)⟩⟩
     case rest =>
      clear HC6
      try clear c2
      try clear c2b0
      try clear c2b1
      try clear c2b2
      try clear p2
      try clear c4
      try clear c5
      try clear c5b0
      try clear c7
      try clear c7b0
      try clear c7b1
      try clear c8
      try clear c8b0
      try clear c8b1
      try clear p2
      obtain ⟨kq, x7_5, rfl, HA, HJ5, BK105, BK106, HB⟩ := hcut
      cases kq with
      | zero => exact absurd HA.out (by simp [signpostref1_Parse.j1])
      | succ kj5 =>
       have H := HA.out
       clear HA
       simp only [signpostref1_Parse.j1] at H
       replace H := Option.bind_eq_some_iff.mp H
       obtain ⟨⟨t108, t109, t110⟩, A90, H⟩ := H
       replace H : (if t110 = true then (signpostref1_Parse.j2 kj5 a0 x6_1 t108 t109 (decide (t108 > 255)) x107000_1 x107001_1) else (signpostref1_Parse.j2 kj5 a0 x6_1 t108 t109 true x107000_1 x107001_1)) = some (r1, r2, r3) := H
       have A9 := Aside0.mk A90
       clear A90
       have HC10 := Aside0.mk H
       clear H
       go_upto_region 14 with (first | ((with_reducible refine gate_callee (f := 50) rfl ?_); refine goesL_ (some 26) rfl rfl Tryd.func50 (by kernel_rfl) rfl #[.string x0_1, .int .u8 x7_5] rfl (by (try simp only [List.map_toArray, List.map_cons, List.map_nil]); first | done | rfl | (simp only [List.length_drop, List.length_take]; rfl)) ?_; (with_reducible refine (signpostref1_number.calls kj5 x0_1 x7_5 t108 t109 t110 _ A9.out).mono ?_); rintro e w' ⟨rfl, ⟨nd, rfl⟩⟩; refine ⟨_, rfl, ?_⟩))
       (try simp only [Act.put, List.setIfInBounds_toArray, List.set_cons_zero, List.set_cons_succ])
       go_cut [35] (fun v35 wc => ∃ (kq : Nat) (x35_9 : Bool), v35 = .bool x35_9 ∧ Aside0 (signpostref1_Parse.j2 kq a0 x6_1 t108 t109 x35_9 x107000_1 x107001_1 = some (r1, r2, r3)) ∧ Aside0 (kq ≤ kj5) ∧ Aside0 (wc.heap[gb105]? = some (.cells #[.int .u32 x106000_1, .int .i64 x106001_1] 24 (0, 0))) ∧ Aside0 (wc.heap[gb106]? = some (.cells #[.int .u32 x107000_1, .int .i64 x107001_1] 24 (0, 0))) ∧ Aside0 (Below w.heap.size w wc))
       case first =>
        have H := HC10.out
        clear HC10
        by_cases c11 : t110 = true
        ·subst c11
         have H1 : (signpostref1_Parse.j2 kj5 a0 x6_1 t108 t109 (decide (t108 > 255)) x107000_1 x107001_1) = some (r1, r2, r3) := by rw [if_pos rfl] at H; exact H
         clear H
         have H := H1
         clear H1
         have H' := Aside0.mk H
         clear H
         go_wp2
         go_meet
         case rel => exact ⟨_, (decide (t108 > 255)), (by first | rfl | (simp; done) | (simp [*]; done)), H', ⟨by have := HK1.out; have := HJ5.out; first | omega | exact Nat.le_refl _⟩, ⟨by (with_reducible repeat (first | refine blk_drewN ?_ _ | refine blk_drew ?_ | refine blk_alloc ?_ _)); exact BK105.out⟩, ⟨by (with_reducible repeat (first | refine blk_drewN ?_ _ | refine blk_drew ?_ | refine blk_alloc ?_ _)); exact BK106.out⟩, ⟨by repeat (first | (with_reducible first | exact HB.out | apply below_alloc | apply pw_below_drewN | apply below_drew1 | refine below_set ?_ GE105.out | refine below_set ?_ GE106.out) | exact HB.out)⟩⟩
        ·replace c11 := Bool.eq_false_iff.mpr c11
         subst c11
         have H1 : (signpostref1_Parse.j2 kj5 a0 x6_1 t108 t109 true x107000_1 x107001_1) = some (r1, r2, r3) := by rw [if_neg (show ¬ (false = true) by decide)] at H; exact H
         clear H
         have H := H1
         clear H1
         have H' := Aside0.mk H
         clear H
         go_wp2
         go_meet
         case rel => exact ⟨_, (true), (by first | rfl | (simp; done) | (simp [*]; done)), H', ⟨by have := HK1.out; have := HJ5.out; first | omega | exact Nat.le_refl _⟩, ⟨by (with_reducible repeat (first | refine blk_drewN ?_ _ | refine blk_drew ?_ | refine blk_alloc ?_ _)); exact BK105.out⟩, ⟨by (with_reducible repeat (first | refine blk_drewN ?_ _ | refine blk_drew ?_ | refine blk_alloc ?_ _)); exact BK106.out⟩, ⟨by repeat (first | (with_reducible first | exact HB.out | apply below_alloc | apply pw_below_drewN | apply below_drew1 | refine below_set ?_ GE105.out | refine below_set ?_ GE106.out) | exact HB.out)⟩⟩
       case rest =>
        clear HC10
        try clear c1
        try clear c2
        try clear c2b0
        try clear c2b1
        try clear c2b2
        try clear p2
        try clear c4
        try clear c5
        try clear c5b0
        try clear c7
        try clear c7b0
        try clear c7b1
        try clear c8
        try clear c8b0
        try clear c8b1
        try clear c11
        try clear p2
        obtain ⟨kq, x35_9, rfl, HA, HJ9, BK105, BK106, HB⟩ := hcut
        cases kq with
        | zero => exact absurd HA.out (by simp [signpostref1_Parse.j2])
        | succ kj9 =>
         have H := HA.out
         clear HA
         simp only [signpostref1_Parse.j2] at H
         by_cases c12 : x35_9 = true
         ·subst c12
          have H1 : (some (0, 0, false)) = some (r1, r2, r3) := by rw [if_pos rfl] at H; exact H
          clear H
          have H := H1
          clear H1
          simp only [Option.some.injEq, Prod.mk.injEq] at H
          obtain ⟨rfl, rfl, rfl⟩ := H
          have hnb13 := NB105_106.out
          have hnc13 := NB106_105.out
          have hcz14_0 : wc.cell? ⟨gb105, 0, none⟩ = some (.int .u32 x106000_1) := (blk_cell BK105.out 0).trans rfl
          have hcz14_1 : wc.cell? ⟨gb105, 1, none⟩ = some (.int .i64 x106001_1) := (blk_cell BK105.out 1).trans rfl
          have hfz14_0 := blk_frozen BK105.out 0
          have hfz14_1 := blk_frozen BK105.out 1
          go_wp2
          refine bodyPost_ret (results_ct rfl _ _ gb105 24 #[.int .u32 0, .int .i64 0] (0, 0) _ rfl (by (with_reducible repeat (first | refine blk_drewN ?_ _ | refine blk_drew ?_ | refine blk_alloc ?_ _)); refine blk_put (cs := #[.int .u32 0, .int .i64 x106001_1]) ?_ 1 _ rfl; (with_reducible repeat (first | refine blk_drewN ?_ _ | refine blk_drew ?_ | refine blk_alloc ?_ _)); refine blk_put (cs := #[.int .u32 x106000_1, .int .i64 x106001_1]) ?_ 0 _ rfl; (with_reducible repeat (first | refine blk_drewN ?_ _ | refine blk_drew ?_ | refine blk_alloc ?_ _)); exact BK105.out) Tryd.underlying24 rfl (by kernel_rfl)) rfl ?_
          exact ⟨by first | rfl | (simp [errW_none, errW_some] <;> rfl) | (simp [*, errW_none, errW_some] <;> rfl), by repeat (first | (with_reducible first | exact HB.out | apply below_alloc | apply pw_below_drewN | apply below_drew1 | refine below_set ?_ GE105.out | refine below_set ?_ GE106.out) | exact HB.out)⟩
         ·replace c12 := Bool.eq_false_iff.mpr c12
          subst c12
          have H1 : (if x6_1 < 4 then (signpostref1_Parse.l0 kj9 t109 a0 (wrap64 (x6_1 + 1)) (Go.bits .or .u32 ((x107000_1 * 256) % 4294967296) ((t108) % 4294967296)) x107001_1) else (signpostref1_Parse.l0 kj9 t109 a0 (wrap64 (x6_1 + 1)) x107000_1 t108)) = some (r1, r2, r3) := by rw [if_neg (show ¬ (false = true) by decide)] at H; exact H
          clear H
          have H := H1
          clear H1
          by_cases c15 : x6_1 < 4
          ·rw [if_pos c15] at H
           have c15b0 : decide (x6_1 < 4) = true := decide_eq_true c15
           clear c15
           have H' := Aside0.mk H
           clear H
           have hnb16 := NB106_105.out
           have hnc16 := NB105_106.out
           have hcz17_0 : wc.cell? ⟨gb106, 0, none⟩ = some (.int .u32 x107000_1) := (blk_cell BK106.out 0).trans rfl
           have hcz17_1 : wc.cell? ⟨gb106, 1, none⟩ = some (.int .i64 x107001_1) := (blk_cell BK106.out 1).trans rfl
           have hfz17_0 := blk_frozen BK106.out 0
           have hfz17_1 := blk_frozen BK106.out 1
           go_wp2
           go_roundg kj9
           case measure => have := HK1.out; have := HJ5.out; have := HJ9.out; omega
           case rel => exact ⟨(t109), (wrap64 (x6_1 + 1)), (x106000_1), (x106001_1), (Go.bits .or .u32 ((x107000_1 * 256) % 4294967296) ((t108) % 4294967296)), (x107001_1), (by first | rfl | (simp; done) | (simp [*]; done)), (by first | rfl | (simp; done) | (simp [*]; done)), H', ⟨by have := HK1.out; have := HJ5.out; have := HJ9.out; omega⟩, ⟨by (with_reducible repeat (first | refine blk_drewN ?_ _ | refine blk_drew ?_ | refine blk_alloc ?_ _)); refine blk_far ?_ NB105_106.out _; (with_reducible repeat (first | refine blk_drewN ?_ _ | refine blk_drew ?_ | refine blk_alloc ?_ _)); exact BK105.out⟩, ⟨by (with_reducible repeat (first | refine blk_drewN ?_ _ | refine blk_drew ?_ | refine blk_alloc ?_ _)); refine blk_put (cs := #[.int .u32 x107000_1, .int .i64 x107001_1]) ?_ 0 _ rfl; (with_reducible repeat (first | refine blk_drewN ?_ _ | refine blk_drew ?_ | refine blk_alloc ?_ _)); exact BK106.out⟩, ⟨by repeat (first | (with_reducible first | exact HB.out | apply below_alloc | apply pw_below_drewN | apply below_drew1 | refine below_set ?_ GE105.out | refine below_set ?_ GE106.out) | exact HB.out)⟩⟩
          ·rw [if_neg c15] at H
           have c15b0 : decide (x6_1 < 4) = false := decide_eq_false c15
           clear c15
           have H' := Aside0.mk H
           clear H
           have hnb18 := NB106_105.out
           have hnc18 := NB105_106.out
           have hcz19_0 : wc.cell? ⟨gb106, 0, none⟩ = some (.int .u32 x107000_1) := (blk_cell BK106.out 0).trans rfl
           have hcz19_1 : wc.cell? ⟨gb106, 1, none⟩ = some (.int .i64 x107001_1) := (blk_cell BK106.out 1).trans rfl
           have hfz19_0 := blk_frozen BK106.out 0
           have hfz19_1 := blk_frozen BK106.out 1
           go_wp2
           go_roundg kj9
           case measure => have := HK1.out; have := HJ5.out; have := HJ9.out; omega
           case rel => exact ⟨(t109), (wrap64 (x6_1 + 1)), (x106000_1), (x106001_1), (x107000_1), (t108), (by first | rfl | (simp; done) | (simp [*]; done)), (by first | rfl | (simp; done) | (simp [*]; done)), H', ⟨by have := HK1.out; have := HJ5.out; have := HJ9.out; omega⟩, ⟨by (with_reducible repeat (first | refine blk_drewN ?_ _ | refine blk_drew ?_ | refine blk_alloc ?_ _)); refine blk_far ?_ NB105_106.out _; (with_reducible repeat (first | refine blk_drewN ?_ _ | refine blk_drew ?_ | refine blk_alloc ?_ _)); exact BK105.out⟩, ⟨by (with_reducible repeat (first | refine blk_drewN ?_ _ | refine blk_drew ?_ | refine blk_alloc ?_ _)); refine blk_put (cs := #[.int .u32 x107000_1, .int .i64 x107001_1]) ?_ 1 _ rfl; (with_reducible repeat (first | refine blk_drewN ?_ _ | refine blk_drew ?_ | refine blk_alloc ?_ _)); exact BK106.out⟩, ⟨by repeat (first | (with_reducible first | exact HB.out | apply below_alloc | apply pw_below_drewN | apply below_drew1 | refine below_set ?_ GE105.out | refine below_set ?_ GE106.out) | exact HB.out)⟩⟩
    ·rw [if_neg c5] at H
     have c5b0 : decide (x6_1 < 5) = false := decide_eq_false c5
     clear c5
     by_cases c20 : x0_1.toList = ([] : List UInt8)
     ·rw [if_pos c20] at H
      have c20b0 : (x0_1.toList == ([] : List UInt8)) = true := beq_iff_eq.mpr c20
      have c20b1 : (x0_1.toList != ([] : List UInt8)) = false := bne_eq_false_iff_eq.mpr c20
      clear c20
      replace H := Option.bind_eq_some_iff.mp H
      obtain ⟨t107, A210, H⟩ := H
      replace H : (if t107.toList = a0.toList then (some (x107000_1, x107001_1, true)) else (some (0, 0, false))) = some (r1, r2, r3) := H
      have A21 := Aside0.mk A210
      clear A210
      by_cases c22 : t107.toList = a0.toList
      ·rw [if_pos c22] at H
       have c22b0 : (t107.toList == a0.toList) = true := beq_iff_eq.mpr c22
       have c22b1 : (t107.toList != a0.toList) = false := bne_eq_false_iff_eq.mpr c22
       clear c22
       simp only [Option.some.injEq, Prod.mk.injEq] at H
       obtain ⟨rfl, rfl, rfl⟩ := H
       have hnb23 := NB106_105.out
       have hnc23 := NB105_106.out
       have hcz24_0 : wr.cell? ⟨gb106, 0, none⟩ = some (.int .u32 x107000_1) := (blk_cell BK106.out 0).trans rfl
       have hcz24_1 : wr.cell? ⟨gb106, 1, none⟩ = some (.int .i64 x107001_1) := (blk_cell BK106.out 1).trans rfl
       have hfz24_0 := blk_frozen BK106.out 0
       have hfz24_1 := blk_frozen BK106.out 1
       go_wp2_with (first | (go_at_call 28; (with_reducible refine (signpostref1_TextP.calls x107000_1 x107001_1 t107 _ A21.out).mono ?_); rintro e w25 ⟨rfl, hb⟩; have n0_ := Aside0.mk (blk_below (g := gb105) (o := .cells #[.int .u32 x106000_1, .int .i64 x106001_1] 24 (0, 0)) (by (with_reducible repeat (first | refine blk_drewN ?_ _ | refine blk_drew ?_ | refine blk_alloc ?_ _)); exact BK105.out) hb); have n1_ := Aside0.mk (blk_below (g := gb106) (o := .cells #[.int .u32 x107000_1, .int .i64 x107001_1] 24 (0, 0)) (by (with_reducible repeat (first | refine blk_drewN ?_ _ | refine blk_drew ?_ | refine blk_alloc ?_ _)); exact BK106.out) hb); have n2_ := Aside0.mk (below_step (by repeat (first | (with_reducible first | exact HB.out | apply below_alloc | apply pw_below_drewN | apply below_drew1 | refine below_set ?_ GE105.out | refine below_set ?_ GE106.out) | exact HB.out)) hb); clear BK105; clear BK106; clear HB; have BK105 := n0_; have BK106 := n1_; have HB := n2_; clear n0_ n1_ n2_; (try clear hb); (try clear hb2); (try clear hk); (try clear hi); have hcz26_0 : w25.cell? ⟨gb106, 0, none⟩ = some (.int .u32 x107000_1) := (blk_cell BK106.out 0).trans rfl; have hcz26_1 : w25.cell? ⟨gb106, 1, none⟩ = some (.int .i64 x107001_1) := (blk_cell BK106.out 1).trans rfl; have hfz26_0 := blk_frozen BK106.out 0; have hfz26_1 := blk_frozen BK106.out 1; have hcz27_0 : w25.cell? ⟨gb105, 0, none⟩ = some (.int .u32 x106000_1) := (blk_cell BK105.out 0).trans rfl; have hcz27_1 : w25.cell? ⟨gb105, 1, none⟩ = some (.int .i64 x106001_1) := (blk_cell BK105.out 1).trans rfl; have hfz27_0 := blk_frozen BK105.out 0; have hfz27_1 := blk_frozen BK105.out 1))
       refine bodyPost_ret (results_ct rfl _ _ gb105 24 #[.int .u32 x107000_1, .int .i64 x107001_1] (0, 0) _ rfl (by (with_reducible repeat (first | refine blk_drewN ?_ _ | refine blk_drew ?_ | refine blk_alloc ?_ _)); refine blk_put (cs := #[.int .u32 x107000_1, .int .i64 x106001_1]) ?_ 1 _ rfl; (with_reducible repeat (first | refine blk_drewN ?_ _ | refine blk_drew ?_ | refine blk_alloc ?_ _)); refine blk_put (cs := #[.int .u32 x106000_1, .int .i64 x106001_1]) ?_ 0 _ rfl; (with_reducible repeat (first | refine blk_drewN ?_ _ | refine blk_drew ?_ | refine blk_alloc ?_ _)); exact BK105.out) Tryd.underlying24 rfl (by kernel_rfl)) rfl ?_
       exact ⟨by first | rfl | (simp [errW_none, errW_some] <;> rfl) | (simp [*, errW_none, errW_some] <;> rfl), by repeat (first | (with_reducible first | exact HB.out | apply below_alloc | apply pw_below_drewN | apply below_drew1 | refine below_set ?_ GE105.out | refine below_set ?_ GE106.out) | exact HB.out)⟩
      ·rw [if_neg c22] at H
       have c22b0 : (t107.toList == a0.toList) = false := beq_eq_false_iff_ne.mpr c22
       have c22b1 : (t107.toList != a0.toList) = true := bne_iff_ne.mpr c22
       simp only [Option.some.injEq, Prod.mk.injEq] at H
       obtain ⟨rfl, rfl, rfl⟩ := H
       have hnb28 := NB106_105.out
       have hnc28 := NB105_106.out
       have hcz29_0 : wr.cell? ⟨gb106, 0, none⟩ = some (.int .u32 x107000_1) := (blk_cell BK106.out 0).trans rfl
       have hcz29_1 : wr.cell? ⟨gb106, 1, none⟩ = some (.int .i64 x107001_1) := (blk_cell BK106.out 1).trans rfl
       have hfz29_0 := blk_frozen BK106.out 0
       have hfz29_1 := blk_frozen BK106.out 1
       go_wp2_with (first | (go_at_call 28; (with_reducible refine (signpostref1_TextP.calls x107000_1 x107001_1 t107 _ A21.out).mono ?_); rintro e w30 ⟨rfl, hb⟩; have n0_ := Aside0.mk (blk_below (g := gb105) (o := .cells #[.int .u32 x106000_1, .int .i64 x106001_1] 24 (0, 0)) (by (with_reducible repeat (first | refine blk_drewN ?_ _ | refine blk_drew ?_ | refine blk_alloc ?_ _)); exact BK105.out) hb); have n1_ := Aside0.mk (blk_below (g := gb106) (o := .cells #[.int .u32 x107000_1, .int .i64 x107001_1] 24 (0, 0)) (by (with_reducible repeat (first | refine blk_drewN ?_ _ | refine blk_drew ?_ | refine blk_alloc ?_ _)); exact BK106.out) hb); have n2_ := Aside0.mk (below_step (by repeat (first | (with_reducible first | exact HB.out | apply below_alloc | apply pw_below_drewN | apply below_drew1 | refine below_set ?_ GE105.out | refine below_set ?_ GE106.out) | exact HB.out)) hb); clear BK105; clear BK106; clear HB; have BK105 := n0_; have BK106 := n1_; have HB := n2_; clear n0_ n1_ n2_; (try clear hb); (try clear hb2); (try clear hk); (try clear hi); have hcz31_0 : w30.cell? ⟨gb105, 0, none⟩ = some (.int .u32 x106000_1) := (blk_cell BK105.out 0).trans rfl; have hcz31_1 : w30.cell? ⟨gb105, 1, none⟩ = some (.int .i64 x106001_1) := (blk_cell BK105.out 1).trans rfl; have hfz31_0 := blk_frozen BK105.out 0; have hfz31_1 := blk_frozen BK105.out 1))
       refine bodyPost_ret (results_ct rfl _ _ gb105 24 #[.int .u32 0, .int .i64 0] (0, 0) _ rfl (by (with_reducible repeat (first | refine blk_drewN ?_ _ | refine blk_drew ?_ | refine blk_alloc ?_ _)); refine blk_put (cs := #[.int .u32 0, .int .i64 x106001_1]) ?_ 1 _ rfl; (with_reducible repeat (first | refine blk_drewN ?_ _ | refine blk_drew ?_ | refine blk_alloc ?_ _)); refine blk_put (cs := #[.int .u32 x106000_1, .int .i64 x106001_1]) ?_ 0 _ rfl; (with_reducible repeat (first | refine blk_drewN ?_ _ | refine blk_drew ?_ | refine blk_alloc ?_ _)); exact BK105.out) Tryd.underlying24 rfl (by kernel_rfl)) rfl ?_
       exact ⟨by first | rfl | (simp [errW_none, errW_some] <;> rfl) | (simp [*, errW_none, errW_some] <;> rfl), by repeat (first | (with_reducible first | exact HB.out | apply below_alloc | apply pw_below_drewN | apply below_drew1 | refine below_set ?_ GE105.out | refine below_set ?_ GE106.out) | exact HB.out)⟩
     ·rw [if_neg c20] at H
      have c20b0 : (x0_1.toList == ([] : List UInt8)) = false := beq_eq_false_iff_ne.mpr c20
      have c20b1 : (x0_1.toList != ([] : List UInt8)) = true := bne_iff_ne.mpr c20
      simp only [Option.some.injEq, Prod.mk.injEq] at H
      obtain ⟨rfl, rfl, rfl⟩ := H
      have hnb32 := NB105_106.out
      have hnc32 := NB106_105.out
      have hcz33_0 : wr.cell? ⟨gb105, 0, none⟩ = some (.int .u32 x106000_1) := (blk_cell BK105.out 0).trans rfl
      have hcz33_1 : wr.cell? ⟨gb105, 1, none⟩ = some (.int .i64 x106001_1) := (blk_cell BK105.out 1).trans rfl
      have hfz33_0 := blk_frozen BK105.out 0
      have hfz33_1 := blk_frozen BK105.out 1
      go_wp2
      refine bodyPost_ret (results_ct rfl _ _ gb105 24 #[.int .u32 0, .int .i64 0] (0, 0) _ rfl (by (with_reducible repeat (first | refine blk_drewN ?_ _ | refine blk_drew ?_ | refine blk_alloc ?_ _)); refine blk_put (cs := #[.int .u32 0, .int .i64 x106001_1]) ?_ 1 _ rfl; (with_reducible repeat (first | refine blk_drewN ?_ _ | refine blk_drew ?_ | refine blk_alloc ?_ _)); refine blk_put (cs := #[.int .u32 x106000_1, .int .i64 x106001_1]) ?_ 0 _ rfl; (with_reducible repeat (first | refine blk_drewN ?_ _ | refine blk_drew ?_ | refine blk_alloc ?_ _)); exact BK105.out) Tryd.underlying24 rfl (by kernel_rfl)) rfl ?_
      exact ⟨by first | rfl | (simp [errW_none, errW_some] <;> rfl) | (simp [*, errW_none, errW_some] <;> rfl), by repeat (first | (with_reducible first | exact HB.out | apply below_alloc | apply pw_below_drewN | apply below_drew1 | refine below_set ?_ GE105.out | refine below_set ?_ GE106.out) | exact HB.out)⟩
 ·rw [if_neg c2] at H
  exact absurd H (by simp)
end Go.Proofs.YtokfgajfkopelaaDoor.BP
namespace Go.Proofs.YtokfgajfkopelaaDoor.Mine
open Go.RowKit Go.Proofs.YtokfgajfkopelaaDoorW.PrintWords Go.Proofs.YtokfgajfkopelaaDoorW.PrintLast Go.Proofs.YtokfgajfkopelaaDoorW.PrintMore
set_option linter.unusedVariables false
set_option linter.unusedSimpArgs false
def dval : List UInt8 → Int → Int
  | [], n => n
  | c :: l, n => dval l (10 * n + ((c.toNat : Int) - 48))
theorem bt_drop (s : ByteArray) (i : Nat) (c : UInt8) (l : List UInt8) (h : s.data.toList.drop i = c :: l) : i < s.size ∧ bt s i = (c.toNat : Int) ∧ s.data.toList.drop (i + 1) = l := by
  have hlt : i < s.size := by
    have := congrArg List.length h
    rw [List.length_drop, List.length_cons] at this
    have e : s.data.toList.length = s.size := by simp
    omega
  have hg : s.data.toList[i]'(by simpa using hlt) = c := by
    have h1 := List.drop_eq_getElem_cons (l := s.data.toList) (i := i) (by simpa using hlt)
    rw [h] at h1
    injection h1 with h1 h2
    exact h1.symm
  refine ⟨hlt, by rw [bt_get s i hlt, hg], ?_⟩
  rw [← List.drop_drop, h]
  rfl
theorem num_run (s : ByteArray) (e : UInt8) (rest : List UInt8) (he : e.toNat < 48) (hs : s.size < 4294967296) : ∀ (d : List UInt8) (k i : Nat) (n : Int), s.data.toList.drop i = d ++ e :: rest → (∀ c ∈ d, 48 ≤ c.toNat ∧ c.toNat ≤ 57) → i + d.length ≤ 3 → 0 < i + d.length → 0 ≤ n → n < 10 ^ i → d.length < k →
    BP.signpostref1_number.l0 k s e.toNat n i = some (dval d n, ⟨rest.toArray⟩, true) := by
  intro d
  induction d with
  | nil =>
    intro k i n hd hc h3 h0 n0 n1 hk
    obtain ⟨k, rfl⟩ : ∃ j, k = j + 1 := ⟨k - 1, by omega⟩
    obtain ⟨hlt, hb, hr⟩ := bt_drop s i e rest hd
    simp only [BP.signpostref1_number.l0]
    have hi : 0 < i := by simpa using h0
    rw [if_pos (by omega), if_pos (by omega), hb, if_pos rfl, wrap64_id _ (by omega) (by omega), if_pos (by omega), if_pos (by omega), decide_eq_true (by omega)]
    have e1 : ((i : Int) + 1).toNat = i + 1 := by omega
    rw [e1]
    have e2 : s.extract (i + 1) s.size = ⟨rest.toArray⟩ := by
      apply ba_ext
      rw [Lib.extract_to_end, hr]
    rw [e2]
    rfl
  | cons c d ih =>
    intro k i n hd hc h3 h0 n0 n1 hk
    obtain ⟨k, rfl⟩ : ∃ j, k = j + 1 := ⟨k - 1, by omega⟩
    obtain ⟨hlt, hb, hr⟩ := bt_drop s i c (d ++ e :: rest) hd
    have hcc := hc c (by simp)
    rw [List.length_cons] at h3 hk
    have hpow : (10 : Int) ^ i ≤ 100 := by
      have : i = 0 ∨ i = 1 ∨ i = 2 := by omega
      rcases this with rfl | rfl | rfl <;> decide
    simp only [BP.signpostref1_number.l0]
    rw [if_pos (by omega), if_pos (by omega), hb, if_neg (by omega), if_neg (by omega), if_neg (by omega), if_neg (by omega), wrap64_id (10 * n) (by omega) (by omega), show ((c.toNat : Int) - 48) % 256 = (c.toNat : Int) - 48 by omega, wrap64_id _ (by omega) (by omega), wrap64_id _ (by omega) (by omega)]
    exact ih k (i + 1) _ hr (fun x hx => hc x (by simp [hx])) (by omega) (by omega) (by omega) (by rw [Int.pow_succ]; omega) (by omega)
theorem num_total (s : ByteArray) (e : Int) (hs : s.size < 4294967296) : ∀ (d k i : Nat) (n : Int), i + d = s.size → d < k → 0 ≤ n → n < 10 ^ i → i ≤ 3 →
    ∃ r1 r2 r3, BP.signpostref1_number.l0 k s e n i = some (r1, r2, r3) ∧ 0 ≤ r1 ∧ r1 < 1000 ∧ r2.size ≤ s.size := by
  intro d
  induction d with
  | zero =>
    intro k i n hi hk n0 n1 h3
    obtain ⟨k, rfl⟩ : ∃ j, k = j + 1 := ⟨k - 1, by omega⟩
    simp only [BP.signpostref1_number.l0]
    rw [if_neg (by omega)]
    exact ⟨_, _, _, rfl, by omega, by omega, Nat.zero_le _⟩
  | succ d ih =>
    intro k i n hi hk n0 n1 h3
    obtain ⟨k, rfl⟩ : ∃ j, k = j + 1 := ⟨k - 1, by omega⟩
    have hpow : (10 : Int) ^ i ≤ 1000 := by
      have : i = 0 ∨ i = 1 ∨ i = 2 ∨ i = 3 := by omega
      rcases this with rfl | rfl | rfl | rfl <;> decide
    simp only [BP.signpostref1_number.l0]
    rw [if_pos (by omega), if_pos (by omega), wrap64_id ((i : Int) + 1) (by omega) (by omega)]
    have hb := bt_range s (i : Int)
    by_cases h1 : bt s (i : Int) = e
    · rw [if_pos h1, if_pos (by omega), if_pos (by omega)]
      exact ⟨_, _, _, rfl, n0, by omega, by rw [ByteArray.size_extract]; omega⟩
    · rw [if_neg h1]
      by_cases h2 : bt s (i : Int) < 48
      · rw [if_pos h2]
        exact ⟨_, _, _, rfl, by omega, by omega, Nat.zero_le _⟩
      · rw [if_neg h2]
        by_cases h4 : bt s (i : Int) > 57
        · rw [if_pos h4]
          exact ⟨_, _, _, rfl, by omega, by omega, Nat.zero_le _⟩
        · rw [if_neg h4]
          by_cases h5 : (i : Int) > 2
          · rw [if_pos h5]
            exact ⟨_, _, _, rfl, by omega, by omega, Nat.zero_le _⟩
          · rw [if_neg h5, wrap64_id (10 * n) (by omega) (by omega), show (bt s (i : Int) - 48) % 256 = bt s (i : Int) - 48 by omega, wrap64_id _ (by omega) (by omega)]
            exact ih k (i + 1) _ (by omega) (by omega) (by omega) (by rw [Int.pow_succ]; omega) (by omega)
theorem dec_run (v : Int) (h0 : 0 ≤ v) (h1 : v ≤ 255) : dval (Lib.itoa v) 0 = v ∧ (∀ c ∈ Lib.itoa v, 48 ≤ c.toNat ∧ c.toNat ≤ 57) ∧ (Lib.itoa v).length ≤ 3 ∧ 0 < (Lib.itoa v).length := by
  have h : ∀ j, j < 256 → dval (Lib.itoa ((j : Nat) : Int)) 0 = ((j : Nat) : Int) ∧ (∀ c ∈ Lib.itoa ((j : Nat) : Int), 48 ≤ c.toNat ∧ c.toNat ≤ 57) ∧ (Lib.itoa ((j : Nat) : Int)).length ≤ 3 ∧ 0 < (Lib.itoa ((j : Nat) : Int)).length := by decide +kernel
  obtain ⟨j, rfl⟩ := Int.eq_ofNat_of_zero_le h0
  exact h j (by omega)
theorem num_dec (k : Nat) (hk : 3 < k) (v : Int) (h0 : 0 ≤ v) (h1 : v ≤ 255) (e : UInt8) (he : e.toNat < 48) (rest : List UInt8) (hr : rest.length < 4294967000) (s : ByteArray) (hs : s.data.toList = Lib.itoa v ++ e :: rest) :
    BP.signpostref1_number.f k s e.toNat = some (v, ⟨rest.toArray⟩, true) := by
  obtain ⟨d1, d2, d3, d4⟩ := dec_run v h0 h1
  have hsz : s.size < 4294967296 := by
    have e : s.data.toList.length = s.size := by simp
    rw [← e, hs, List.length_append, List.length_cons]
    omega
  have h := num_run s e rest he hsz (Lib.itoa v) k 0 0 (by rw [List.drop_zero]; exact hs) d2 (by omega) (by omega) (by omega) (by decide) (by omega)
  rw [d1] at h
  exact h
theorem ref_round (k : Nat) (x0 x4 : ByteArray) (i : Nat) (hi : i < 5) (a n v : Int) (rest : ByteArray) (v0 : 0 ≤ v) (v1 : v ≤ 255) (hn : BP.signpostref1_number.f (k + 1) x0 (if i = 3 then 47 else if i = 4 then 33 else 46) = some (v, rest, true)) :
    BP.signpostref1_Parse.l0 (k + 3) x0 x4 i a n = if i < 4 then BP.signpostref1_Parse.l0 k rest x4 ((i + 1 : Nat) : Int) (bits .or .u32 ((a * 256) % 4294967296) (v % 4294967296)) n else BP.signpostref1_Parse.l0 k rest x4 ((i + 1 : Nat) : Int) a v := by
  have hj : ∀ e, BP.signpostref1_number.f (k + 1) x0 e = some (v, rest, true) → BP.signpostref1_Parse.j1 (k + 2) x0 x4 i e a n = if i < 4 then BP.signpostref1_Parse.l0 k rest x4 ((i + 1 : Nat) : Int) (bits .or .u32 ((a * 256) % 4294967296) (v % 4294967296)) n else BP.signpostref1_Parse.l0 k rest x4 ((i + 1 : Nat) : Int) a v := by
    intro e he
    rw [BP.signpostref1_Parse.j1, he, Option.bind_some, if_pos rfl, BP.signpostref1_Parse.j2, if_neg (by simp; omega), wrap64_id _ (by omega) (by omega), show (i : Int) + 1 = ((i + 1 : Nat) : Int) by omega]
    by_cases h4 : i < 4
    · rw [if_pos (by omega), if_pos h4]
    · rw [if_neg (by omega), if_neg h4]
  rw [BP.signpostref1_Parse.l0, if_pos (by omega)]
  by_cases h3 : i = 3
  · rw [if_pos (by omega)]
    rw [if_pos h3] at hn
    exact hj 47 hn
  · rw [if_neg (by omega)]
    rw [if_neg h3] at hn
    by_cases h4 : i = 4
    · rw [if_pos (by omega)]
      rw [if_pos h4] at hn
      exact hj 33 hn
    · rw [if_neg (by omega)]
      rw [if_neg h4] at hn
      exact hj 46 hn
theorem ref_total (x4 : ByteArray) : ∀ (d k i : Nat) (x0 : ByteArray) (a n : Int), i + d = 5 → x0.size ≤ 1001 → 3 * d + 1100 < k → 0 ≤ a → a < 4294967296 →
    BP.signpostref1_Parse.l0 k x0 x4 i a n = some (0, 0, false) ∨ ∃ b m, 0 ≤ b ∧ b < 4294967296 ∧ textP b m = x4 ∧ BP.signpostref1_Parse.l0 k x0 x4 i a n = some (b, m, true) := by
  intro d
  induction d with
  | zero =>
    intro k i x0 a n hi hs hk a0 a1
    obtain ⟨k, rfl⟩ : ∃ j, k = j + 1 := ⟨k - 1, by omega⟩
    rw [BP.signpostref1_Parse.l0, if_neg (by omega)]
    by_cases h1 : x0.toList = []
    · rw [if_pos h1]
      unfold BP.signpostref1_TextP.f
      rw [if_pos ⟨a0, a1⟩, Option.bind_some]
      by_cases h2 : (textP a n).toList = x4.toList
      · rw [if_pos h2]
        exact .inr ⟨a, n, a0, a1, ba_ext (by rw [← ByteArray.toList_eq, ← ByteArray.toList_eq]; exact h2), rfl⟩
      · rw [if_neg h2]
        exact .inl rfl
    · rw [if_neg h1]
      exact .inl rfl
  | succ d ih =>
    intro k i x0 a n hi hs hk a0 a1
    obtain ⟨k, rfl⟩ : ∃ j, k = j + 3 := ⟨k - 3, by omega⟩
    have hj : ∀ e, BP.signpostref1_Parse.j1 (k + 2) x0 x4 i e a n = some (0, 0, false) ∨ ∃ b m, 0 ≤ b ∧ b < 4294967296 ∧ textP b m = x4 ∧ BP.signpostref1_Parse.j1 (k + 2) x0 x4 i e a n = some (b, m, true) := by
      intro e
      obtain ⟨r1, r2, r3, hn, q0, q1, q2⟩ := num_total x0 e (by omega) x0.size (k + 1) 0 0 (by omega) (by omega) (by omega) (by decide) (by omega)
      have hn' : BP.signpostref1_number.f (k + 1) x0 e = some (r1, r2, r3) := hn
      rw [BP.signpostref1_Parse.j1, hn', Option.bind_some]
      have hz : BP.signpostref1_Parse.j2 (k + 1) x4 i r1 r2 true a n = some (0, 0, false) := by
        rw [BP.signpostref1_Parse.j2, if_pos rfl]
      cases r3
      · rw [if_neg (by simp)]
        exact .inl hz
      · rw [if_pos rfl]
        by_cases hg : r1 > 255
        · rw [decide_eq_true hg]
          exact .inl hz
        · rw [decide_eq_false hg, BP.signpostref1_Parse.j2, if_neg (by simp), wrap64_id _ (by omega) (by omega), show (i : Int) + 1 = ((i + 1 : Nat) : Int) by omega]
          by_cases h4 : (i : Int) < 4
          · rw [if_pos h4]
            exact ih k (i + 1) r2 _ n (by omega) (by omega) (by omega) (or_range _ _).1 (or_range _ _).2
          · rw [if_neg h4]
            exact ih k (i + 1) r2 a r1 (by omega) (by omega) (by omega) a0 a1
    rw [BP.signpostref1_Parse.l0, if_pos (by omega)]
    by_cases h3 : (i : Int) = 3
    · rw [if_pos h3]
      exact hj 47
    · rw [if_neg h3]
      by_cases h4 : (i : Int) = 4
      · rw [if_pos h4]
        exact hj 33
      · rw [if_neg h4]
        exact hj 46
theorem ref_cases (s : ByteArray) (hs : s.size < 1000) : BP.signpostref1_Parse.f 3000 s = some (0, 0, false) ∨ ∃ b m, 0 ≤ b ∧ b < 4294967296 ∧ textP b m = s ∧ BP.signpostref1_Parse.f 3000 s = some (b, m, true) := by
  unfold BP.signpostref1_Parse.f
  rw [if_pos (by omega)]
  exact ref_total s 5 3000 0 _ 0 0 (by omega) (by rw [ByteArray.size_append]; show s.size + 1 ≤ 1001; omega) (by omega) (by omega) (by omega)
theorem orA_eq (a v : Int) (h0 : 0 ≤ a) (h1 : a < 16777216) (v0 : 0 ≤ v) (v1 : v ≤ 255) : bits .or .u32 ((a * 256) % 4294967296) (v % 4294967296) = a * 256 + v := by
  rw [Int.emod_eq_of_lt (by omega) (by omega), Int.emod_eq_of_lt v0 (by omega)]
  exact bits_join .u32 32 (by decide) (fun x x0 x1 => by rw [IntKind.wrap_u32]; exact Int.emod_eq_of_lt x0 (by exact x1)) 8 (a * 256) v (by omega) (by rw [show ((2 : Int) ^ 8) = 256 by decide]; omega) (by show a * 256 < 4294967296; omega) v0 (by show v < 256; omega) (by show v < 4294967296; omega)
theorem ref_text (a n : Int) (h0 : 0 ≤ a) (h1 : a < 4294967296) (hr : rightB a n = true) : BP.signpostref1_Parse.f 3000 (textP a n) = some (a, n, true) := by
  obtain ⟨n0, n1, _⟩ := (right_iff a n).1 hr
  have b24 := (byte_top a h0 h1).2
  have b16 := (byte_of a 16 h0 h1).2
  have b8 := (byte_of a 8 h0 h1).2
  have b0 := (byte_low a h0 h1).2
  have hA : ((a / 2 ^ 24 % 256 * 256 + a / 2 ^ 16 % 256) * 256 + a / 2 ^ 8 % 256) * 256 + a % 256 = a := by
    clear b24 b16 b8 b0
    have e24 : (2 : Int) ^ 24 = 16777216 := by decide
    have e16 : (2 : Int) ^ 16 = 65536 := by decide
    have e8 : (2 : Int) ^ 8 = 256 := by decide
    rw [e24, e16, e8]
    omega
  have ht := text_list a n hr
  have T := textP a n
  generalize hT : textP a n = t at *
  generalize a / 2 ^ 24 % 256 = x0 at *
  generalize a / 2 ^ 16 % 256 = x1 at *
  generalize a / 2 ^ 8 % 256 = x2 at *
  generalize a % 256 = x3 at *
  have l0 := (dec_run x0 b24.1 b24.2).2.2.1
  have l1 := (dec_run x1 b16.1 b16.2).2.2.1
  have l2 := (dec_run x2 b8.1 b8.2).2.2.1
  have l3 := (dec_run x3 b0.1 b0.2).2.2.1
  have l4 := (dec_run n n0 (by omega)).2.2.1
  have hsz : t.size < 1000 := by
    have e : t.data.toList.length = t.size := by simp
    rw [← e, ht]
    simp only [List.length_append, List.length_cons]
    omega
  unfold BP.signpostref1_Parse.f
  rw [if_pos (by omega)]
  have hd : (t ++ ⟨#[33]⟩).data.toList = Lib.itoa x0 ++ 46 :: (Lib.itoa x1 ++ 46 :: (Lib.itoa x2 ++ 46 :: (Lib.itoa x3 ++ 47 :: (Lib.itoa n ++ 33 :: [])))) := by
    rw [ByteArray.data_append, Array.toList_append, ht]
    simp
  have q0 := num_dec 2998 (by omega) x0 b24.1 b24.2 46 (by decide) _ (by simp only [List.length_append, List.length_cons, List.length_nil]; omega) _ hd
  have q1 := num_dec 2995 (by omega) x1 b16.1 b16.2 46 (by decide) (Lib.itoa x2 ++ 46 :: (Lib.itoa x3 ++ 47 :: (Lib.itoa n ++ 33 :: []))) (by simp only [List.length_append, List.length_cons, List.length_nil]; omega) ⟨(Lib.itoa x1 ++ 46 :: (Lib.itoa x2 ++ 46 :: (Lib.itoa x3 ++ 47 :: (Lib.itoa n ++ 33 :: [])))).toArray⟩ rfl
  have q2 := num_dec 2992 (by omega) x2 b8.1 b8.2 46 (by decide) (Lib.itoa x3 ++ 47 :: (Lib.itoa n ++ 33 :: [])) (by simp only [List.length_append, List.length_cons, List.length_nil]; omega) ⟨(Lib.itoa x2 ++ 46 :: (Lib.itoa x3 ++ 47 :: (Lib.itoa n ++ 33 :: []))).toArray⟩ rfl
  have q3 := num_dec 2989 (by omega) x3 b0.1 b0.2 47 (by decide) (Lib.itoa n ++ 33 :: []) (by simp only [List.length_append, List.length_cons, List.length_nil]; omega) ⟨(Lib.itoa x3 ++ 47 :: (Lib.itoa n ++ 33 :: [])).toArray⟩ rfl
  have q4 := num_dec 2986 (by omega) n n0 (by omega) 33 (by decide) [] (by simp) ⟨(Lib.itoa n ++ 33 :: []).toArray⟩ rfl
  have r0 := ref_round 2997 _ t 0 (by omega) 0 0 x0 _ b24.1 b24.2 q0
  have r1 := ref_round 2994 _ t 1 (by omega) x0 0 x1 _ b16.1 b16.2 q1
  have r2 := ref_round 2991 _ t 2 (by omega) (x0 * 256 + x1) 0 x2 _ b8.1 b8.2 q2
  have r3 := ref_round 2988 _ t 3 (by omega) ((x0 * 256 + x1) * 256 + x2) 0 x3 _ b0.1 b0.2 q3
  have r4 := ref_round 2985 _ t 4 (by omega) (((x0 * 256 + x1) * 256 + x2) * 256 + x3) 0 n _ n0 (by omega) q4
  rw [if_pos (by decide), orA_eq 0 x0 (by omega) (by omega) b24.1 b24.2, show (0 : Int) * 256 + x0 = x0 by omega] at r0
  rw [if_pos (by decide), orA_eq x0 x1 (by omega) (by omega) b16.1 b16.2] at r1
  rw [if_pos (by decide), orA_eq _ x2 (by omega) (by omega) b8.1 b8.2] at r2
  rw [if_pos (by decide), orA_eq _ x3 (by omega) (by omega) b0.1 b0.2] at r3
  rw [if_neg (by decide), hA] at r4
  rw [hA] at r3
  refine r0.trans (r1.trans (r2.trans (r3.trans (r4.trans ?_))))
  rw [BP.signpostref1_Parse.l0, if_neg (by decide), if_pos (by rw [ByteArray.toList_eq])]
  unfold BP.signpostref1_TextP.f
  rw [if_pos ⟨h0, h1⟩, Option.bind_some, hT, if_pos rfl]
theorem ref_empty : BP.signpostref1_Parse.f 3000 ⟨#[]⟩ = some (0, 0, false) := by
  rcases ref_cases ⟨#[]⟩ (by decide) with h | ⟨b, m, b0, b1, ht, h⟩
  · exact h
  · exfalso
    unfold BP.signpostref1_Parse.f at h
    rw [if_pos (by decide)] at h
    have hn : BP.signpostref1_number.f 2998 ((⟨#[]⟩ : ByteArray) ++ ⟨#[33]⟩) 46 = some (0, ⟨#[]⟩, false) := by decide +kernel
    have hl : BP.signpostref1_Parse.l0 3000 ((⟨#[]⟩ : ByteArray) ++ ⟨#[33]⟩) ⟨#[]⟩ 0 0 0 = some (0, 0, false) := by
      rw [BP.signpostref1_Parse.l0, if_pos (by decide), if_neg (by decide), if_neg (by decide), BP.signpostref1_Parse.j1, hn, Option.bind_some, if_neg (by simp), BP.signpostref1_Parse.j2, if_pos rfl]
    rw [hl] at h
    exact absurd h (by simp)
theorem read_same (s : ByteArray) (hs : s.size < 1000) : BP.signpostref1_Parse.f 3000 s = some (parseP s) := by
  rcases ref_cases s hs with h | ⟨b, m, b0, b1, ht, h⟩
  · rw [h]
    rcases parse_cases s with h2 | ⟨a, n, a0, a1, hr, h2, ht⟩
    · rw [h2]
    · exfalso
      have := ref_text a n a0 a1 hr
      rw [ht, h] at this
      exact absurd this (by simp)
  · cases hr : rightB b m
    · rw [textP_wrong b m hr] at ht
      rw [← ht, ref_empty] at h
      exact absurd h (by simp)
    · have := parse_text b m b0 b1 hr
      rw [ht] at this
      rw [h, this]
end Go.Proofs.YtokfgajfkopelaaDoor.Mine
namespace Go.Proofs.YtokfgajfkopelaaDoor.BP
open Go.RowKit Go.Proofs.YtokfgajfkopelaaDoor.Mine Go.Proofs.YtokfgajfkopelaaDoorW.PrintWords Go.Proofs.YtokfgajfkopelaaDoorW.PrintLast Go.Proofs.YtokfgajfkopelaaDoorW.PrintMore
def signpostref1_ParseP.f (s : ByteArray) : Option (Int × Int × Bool) := if s.size < 1000 then some (parseP s) else none
theorem signpostref1_ParseP.calls (a0 : ByteArray) (r1 r2 : Int) (r3 : Bool) (w : World) (h : signpostref1_ParseP.f a0 = some (r1, r2, r3)) :
    Calls Tryd.prog 42 #[.string a0] w fun e w' => e = .returned (.tuple #[.agg #[.int .u32 r1, .int .i64 r2], .bool r3]) ∧ Below w.heap.size w w' := by
  unfold signpostref1_ParseP.f at h
  split at h
  · rename_i hs
    exact signpostref1_Parse.calls 3000 a0 r1 r2 r3 w ((read_same a0 hs).trans h)
  · exact absurd h (by simp)
end Go.Proofs.YtokfgajfkopelaaDoor.BP
