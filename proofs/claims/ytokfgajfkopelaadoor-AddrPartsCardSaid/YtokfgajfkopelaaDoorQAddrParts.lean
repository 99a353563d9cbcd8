/- A mask has so many bits, the highest; a prefix has an address just if it is one of as many as its length leaves: the first and the last are, those beside are not: whatever the address and the number. -/
import Derived.Below
import Derived.ChangeOld
import Derived.Deep.DeepHandedRow
import Derived.Lib.LaidTab
import Derived.OpenShut
import Derived.ProofKit
import Derived.SevenTiedAt
import Derived.ShutString
import Derived.SizedLaws
import Derived.Test.YtokfgajfkopelaaDoorCards
import Derived.Test.YtokfgajfkopelaaDoorTie
import Derived.WalkKit
import Derived.Test.YtokfgajfkopelaaDoorQ3
namespace Go.Proofs.YtokfgajfkopelaaDoor.BP
open Go.Proofs.YtokfgajfkopelaaDoor.Mine
open Go.RowKit Go.Proofs.YtokfgajfkopelaaDoorW.PrintWords Go.Proofs.YtokfgajfkopelaaDoorW.PrintLast Go.Proofs.YtokfgajfkopelaaDoorW.PrintMore
attribute [local go_sem] max2_int min2_int max_two min_two max_three min_three max_four min_four
set_option linter.unusedVariables false
set_option linter.unusedSimpArgs false
mutual
def signpostlaw1_AddrParts.l0 : Nat → Int → Int → Int → Int → Int → Int → Int → Option (Bool)
 | 0, _, _, _, _, _, _, _ => none
 | k + 1, x0, x6, x7, x8, x9, x145000, x145001 => if x9 < 32 then (if 0 ≤ (IntKind.u64.wrap (wrap64 (31 - x9))) then (if (Go.bits .and .u32 (shr .u32 x6 (IntKind.u64.wrap (wrap64 (31 - x9)))) 1) = 1 then (if x8 = x9 then (signpostlaw1_AddrParts.l0 k x0 x6 x7 (wrap64 (x8 + 1)) (wrap64 (x9 + 1)) x145000 x145001) else (some false)) else (signpostlaw1_AddrParts.l0 k x0 x6 x7 x8 (wrap64 (x9 + 1)) x145000 x145001)) else (none)) else (if x8 = x145001 then ((addr_Has.f x145000 x145001 x145000).bind fun t146 => (if t146 = true then ((addr_Has.f x145000 x145001 x7).bind fun t147 => (if t147 = true then ((addr_Has.f x145000 x145001 (Go.bits .or .u32 x145000 (Go.bits .andNot .u32 x0 x6))).bind fun t148 => (signpostlaw1_AddrParts.j1 k x7 (!t148) x145000 x145001)) else (signpostlaw1_AddrParts.j1 k x7 true x145000 x145001))) else (signpostlaw1_AddrParts.j1 k x7 true x145000 x145001))) else (signpostlaw1_AddrParts.j1 k x7 true x145000 x145001))
def signpostlaw1_AddrParts.j1 : Nat → Int → Bool → Int → Int → Option (Bool)
 | 0, _, _, _, _ => none
 | k + 1, x7, x64, x145000, x145001 => if x64 = true then (some false) else (if x145000 = 0 then (if x7 = 4294967295 then ((signpostlaw1_known.f).bind fun t149 => (some t149)) else ((addr_Has.f x145000 x145001 ((x7 + 1) % 4294967296)).bind fun t150 => (if t150 = true then (some false) else ((signpostlaw1_known.f).bind fun t151 => (some t151))))) else ((addr_Has.f x145000 x145001 ((x145000 - 1) % 4294967296)).bind fun t152 => (if t152 = true then (some false) else (if x7 = 4294967295 then ((signpostlaw1_known.f).bind fun t153 => (some t153)) else ((addr_Has.f x145000 x145001 ((x7 + 1) % 4294967296)).bind fun t154 => (if t154 = true then (some false) else ((signpostlaw1_known.f).bind fun t155 => (some t155))))))))
end
def signpostlaw1_AddrParts.f (k : Nat) (a0 : Int) (a1 : Int) : Option (Bool) := (signpostkeep_Any.f k a0 a1).bind fun bt142 => ((addr_Mask.f bt142.2).bind fun t145 => (signpostlaw1_AddrParts.l0 k a0 t145 (Go.bits .or .u32 bt142.1 (Go.bits .xor .u32 (IntKind.u32.max) t145)) 0 0 bt142.1 bt142.2))
theorem signpostlaw1_AddrParts.j1_dead (k : Nat) (y0 : _) (y2 : _) (y3 : _) : signpostlaw1_AddrParts.j1 k y0 true y2 y3 ≠ some true := by cases k <;> simp [signpostlaw1_AddrParts.j1]
set_option maxHeartbeats 8000000 in
set_option maxRecDepth 100000 in
theorem signpostlaw1_AddrParts.calls (k : Nat) (a0 : Int) (a1 : Int) (r : Bool) (hr : r = true) (w : World) (henv : Env w) (h : signpostlaw1_AddrParts.f k a0 a1 = some r) :
 Calls Tryd.prog 4 #[.int .u32 a0, .int .i64 a1] w fun e w' => e = .returned (.bool r) ∧ Below w.heap.size w w' := by
 have hu24 := Tryd.underlying24
 have HB := Aside0.mk (Below.refl w.heap.size w)
 have HENV := Aside0.mk henv
 clear henv
 have H : ((signpostkeep_Any.f k a0 a1).bind fun bt142 => ((addr_Mask.f bt142.2).bind fun t145 => (signpostlaw1_AddrParts.l0 k a0 t145 (Go.bits .or .u32 bt142.1 (Go.bits .xor .u32 (IntKind.u32.max) t145)) 0 0 bt142.1 bt142.2))) = some r := h
 clear h
 replace H := Option.bind_eq_some_iff.mp H
 obtain ⟨⟨t142, t143⟩, A30, H⟩ := H
 replace H : ((addr_Mask.f t143).bind fun t145 => (signpostlaw1_AddrParts.l0 k a0 t145 (Go.bits .or .u32 t142 (Go.bits .xor .u32 (IntKind.u32.max) t145)) 0 0 t142 t143)) = some r := H
 have A3 := Aside0.mk A30
 clear A30
 replace H := Option.bind_eq_some_iff.mp H
 obtain ⟨t145, A40, H⟩ := H
 replace H : (signpostlaw1_AddrParts.l0 k a0 t145 (Go.bits .or .u32 t142 (Go.bits .xor .u32 (IntKind.u32.max) t145)) 0 0 t142 t143) = some r := H
 have A4 := Aside0.mk A40
 clear A40
 have H' := Aside0.mk H
 clear H
 go_enter Tryd.func4, Tryd.ntmps4
 go_wp2_with (first | ((with_reducible refine gate_callee (f := 11) rfl ?_); refine goesL_ (some 12) rfl rfl Tryd.func11 (by kernel_rfl) rfl #[.int .u32 a0, .int .i64 a1] rfl (by (try simp only [List.map_toArray, List.map_cons, List.map_nil]); first | done | rfl | (simp only [List.length_drop, List.length_take]; rfl)) ?_; (with_reducible refine (signpostkeep_Any.calls k a0 a1 t142 t143 _ A3.out).mono ?_); rintro e w5 ⟨rfl, hb⟩; refine ⟨_, rfl, ?_⟩; have n0_ := Aside0.mk (below_step (by repeat (first | (with_reducible first | exact HB.out | apply below_alloc | apply pw_below_drewN | apply below_drew1) | exact HB.out)) hb); clear HB; have HB := n0_; clear n0_; (try clear hb); (try clear hb2); (try clear hk); (try clear hi)) | ((with_reducible refine gate_dst (N := 5) rfl ?_); refine box_event ?hg (N := 5) ?hd (cs := #[.int .u32 0, .int .i64 0]) (t := 24) ?hr ?_; (case hd => rfl); (case hg => rfl); (case hr => first | (go_simp; done) | (go_simp; rfl)); intro gb144 hg w6 hbox hb; have n0_ := Aside0.mk (below_step (by repeat (first | (with_reducible first | exact HB.out | apply below_alloc | apply pw_below_drewN | apply below_drew1) | exact HB.out)) hb); have n1_ := Aside0.mk (hbox); have n2_ := Aside0.mk ((by rw [hg]; exact (below_size (by repeat (first | (with_reducible first | exact HB.out | apply below_alloc | apply pw_below_drewN | apply below_drew1) | exact HB.out))) : w.heap.size ≤ gb144)); have n3_ := Aside0.mk ((by rw [hg]; exact (below_size (by repeat (first | (with_reducible first | exact HB.out | apply below_alloc | apply pw_below_drewN | apply below_drew1) | exact HB.out))) : w.heap.size ≤ gb144)); clear HB; have HB := n0_; have BK144 := n1_; have GW144 := n2_; have GE144 := n3_; clear n0_ n1_ n2_ n3_; clear hb hbox hg; have hcz7_0 : w6.cell? ⟨gb144, 0, none⟩ = some (.int .u32 0) := (blk_cell BK144.out 0).trans rfl; have hcz7_1 : w6.cell? ⟨gb144, 1, none⟩ = some (.int .i64 0) := (blk_cell BK144.out 1).trans rfl; have hfz7_0 := blk_frozen BK144.out 0; have hfz7_1 := blk_frozen BK144.out 1) | ((with_reducible refine gate_callee (f := 16) rfl ?_); refine goesL_ (some 15) rfl rfl Tryd.func16 (by kernel_rfl) rfl #[.int .i64 t143] rfl (by (try simp only [List.map_toArray, List.map_cons, List.map_nil]); first | done | rfl | (simp only [List.length_drop, List.length_take]; rfl)) ?_; (with_reducible refine (addr_Mask.calls t143 t145 _ A4.out).mono ?_); rintro e w8 ⟨rfl, hb⟩; refine ⟨_, rfl, ?_⟩; have n0_ := Aside0.mk (blk_below (g := gb144) (o := .cells #[.int .u32 t142, .int .i64 t143] 24 (0, 0)) (by (with_reducible repeat (first | refine blk_drewN ?_ _ | refine blk_drew ?_ | refine blk_alloc ?_ _)); refine blk_put (cs := #[.int .u32 t142, .int .i64 0]) ?_ 1 _ rfl; (with_reducible repeat (first | refine blk_drewN ?_ _ | refine blk_drew ?_ | refine blk_alloc ?_ _)); refine blk_put (cs := #[.int .u32 0, .int .i64 0]) ?_ 0 _ rfl; (with_reducible repeat (first | refine blk_drewN ?_ _ | refine blk_drew ?_ | refine blk_alloc ?_ _)); exact BK144.out) hb); have n1_ := Aside0.mk (below_step (by repeat (first | (with_reducible first | exact HB.out | apply below_alloc | apply pw_below_drewN | apply below_drew1 | refine below_set ?_ GE144.out) | exact HB.out)) hb); clear BK144; clear HB; have BK144 := n0_; have HB := n1_; clear n0_ n1_; (try clear hb); (try clear hb2); (try clear hk); (try clear hi); have hcz9_0 : w8.cell? ⟨gb144, 0, none⟩ = some (.int .u32 t142) := (blk_cell BK144.out 0).trans rfl; have hcz9_1 : w8.cell? ⟨gb144, 1, none⟩ = some (.int .i64 t143) := (blk_cell BK144.out 1).trans rfl; have hfz9_0 := blk_frozen BK144.out 0; have hfz9_1 := blk_frozen BK144.out 1))
 go_loopg [8, 9] k (fun kq v8 v9 w' => ∃ (x8_1 : Int) (x9_1 : Int), v8 = .int .i64 x8_1 ∧ v9 = .int .i64 x9_1 ∧ Aside0 (signpostlaw1_AddrParts.l0 kq a0 t145 (Go.bits .or .u32 t142 (Go.bits .xor .u32 (IntKind.u32.max) t145)) x8_1 x9_1 t142 t143 = some r) ∧ Aside0 (kq ≤ k) ∧ Aside0 (w'.heap[gb144]? = some (.cells #[.int .u32 t142, .int .i64 t143] 24 (0, 0))) ∧ Aside0 (Below w.heap.size w w'))
 case atStart => exact ⟨(0), (0), (by first | rfl | (simp; done) | (simp [*]; done)), (by first | rfl | (simp; done) | (simp [*]; done)), H', ⟨Nat.le_refl _⟩, ⟨by (with_reducible repeat (first | refine blk_drewN ?_ _ | refine blk_drew ?_ | refine blk_alloc ?_ _)); exact BK144.out⟩, ⟨by repeat (first | (with_reducible first | exact HB.out | apply below_alloc | apply pw_below_drewN | apply below_drew1 | refine below_set ?_ GE144.out) | exact HB.out)⟩⟩
 case round =>
  clear H'
  try clear c1
  try clear p2
  try clear c4
  try clear hcz7_0
  try clear hcz7_1
  try clear hcz9_0
  try clear hcz9_1
  try clear hfz7_0
  try clear hfz7_1
  try clear hfz9_0
  try clear hfz9_1
  obtain ⟨x8_1, x9_1, rfl, rfl, HA, HK1, BK144, HB⟩ := hrel
  cases gk with
  | zero => exact absurd HA.out (by simp [signpostlaw1_AddrParts.l0])
  | succ k1 =>
   have H := HA.out
   clear HA
   simp only [signpostlaw1_AddrParts.l0] at H
   by_cases c10 : x9_1 < 32
   ·rw [if_pos c10] at H
    have c10b0 : decide (x9_1 < 32) = true := decide_eq_true c10
    clear c10
    obtain ⟨ji11, hji11⟩ : ∃ j_ : Int, (IntKind.u64.wrap (wrap64 (31 - x9_1))) = j_ := ⟨_, rfl⟩
    replace H : (if 0 ≤ (ji11) then (if (Go.bits .and .u32 (shr .u32 t145 (ji11)) 1) = 1 then (if x8_1 = x9_1 then (signpostlaw1_AddrParts.l0 k1 a0 t145 (Go.bits .or .u32 t142 (Go.bits .xor .u32 (IntKind.u32.max) t145)) (wrap64 (x8_1 + 1)) (wrap64 (x9_1 + 1)) t142 t143) else (some false)) else (signpostlaw1_AddrParts.l0 k1 a0 t145 (Go.bits .or .u32 t142 (Go.bits .xor .u32 (IntKind.u32.max) t145)) x8_1 (wrap64 (x9_1 + 1)) t142 t143)) else (none)) = some r := by first | (rw [hji11] at H; exact H) | (simp only [hji11] at H ⊢; exact H)
    by_cases c12 : 0 ≤ (ji11)
    ·rw [if_pos c12] at H
     have c12b0 := eq_true c12
     have c12b1 : decide (0 ≤ (ji11)) = true := decide_eq_true c12
     clear c12
     obtain ⟨ji13, hji13⟩ : ∃ j_ : Int, (shr .u32 t145 (ji11)) = j_ := ⟨_, rfl⟩
     replace H : (if (Go.bits .and .u32 (ji13) 1) = 1 then (if x8_1 = x9_1 then (signpostlaw1_AddrParts.l0 k1 a0 t145 (Go.bits .or .u32 t142 (Go.bits .xor .u32 (IntKind.u32.max) t145)) (wrap64 (x8_1 + 1)) (wrap64 (x9_1 + 1)) t142 t143) else (some false)) else (signpostlaw1_AddrParts.l0 k1 a0 t145 (Go.bits .or .u32 t142 (Go.bits .xor .u32 (IntKind.u32.max) t145)) x8_1 (wrap64 (x9_1 + 1)) t142 t143)) = some r := by first | (rw [hji13] at H; exact H) | (simp only [hji13] at H ⊢; exact H)
     have hji13_ : (t145 / 2 ^ min (ji11).toNat 32) = ji13 := hji13
     have hji13z : (ji11) ≤ 32 → (t145 / 2 ^ (ji11).toNat) = ji13 := shr_small hji13
     by_cases c14 : (Go.bits .and .u32 (ji13) 1) = 1
     ·rw [if_pos c14] at H
      have c14b0 : ((Go.bits .and .u32 (ji13) 1) == 1) = true := beq_iff_eq.mpr c14
      have c14b1 : ((Go.bits .and .u32 (ji13) 1) != 1) = false := bne_eq_false_iff_eq.mpr c14
      clear c14
      by_cases c15 : x8_1 = x9_1
      ·rw [if_pos c15] at H
       have c15b0 : (x8_1 == x9_1) = true := beq_iff_eq.mpr c15
       have c15b1 : (x8_1 != x9_1) = false := bne_eq_false_iff_eq.mpr c15
       clear c15
       have H' := Aside0.mk H
       clear H
       go_wp2
       go_roundg k1
       case measure => have := HK1.out; omega
       case rel => exact ⟨(wrap64 (x8_1 + 1)), (wrap64 (x9_1 + 1)), (by first | rfl | (simp; done) | (simp [*]; done)), (by first | rfl | (simp; done) | (simp [*]; done)), H', ⟨by have := HK1.out; omega⟩, ⟨by (with_reducible repeat (first | refine blk_drewN ?_ _ | refine blk_drew ?_ | refine blk_alloc ?_ _)); exact BK144.out⟩, ⟨by repeat (first | (with_reducible first | exact HB.out | apply below_alloc | apply pw_below_drewN | apply below_drew1 | refine below_set ?_ GE144.out) | exact HB.out)⟩⟩
      ·rw [if_neg c15] at H
       have c15b0 : (x8_1 == x9_1) = false := beq_eq_false_iff_ne.mpr c15
       have c15b1 : (x8_1 != x9_1) = true := bne_iff_ne.mpr c15
       exact absurd ((Option.some.inj H).trans hr) (by decide)
     ·rw [if_neg c14] at H
      have c14b0 : ((Go.bits .and .u32 (ji13) 1) == 1) = false := beq_eq_false_iff_ne.mpr c14
      have c14b1 : ((Go.bits .and .u32 (ji13) 1) != 1) = true := bne_iff_ne.mpr c14
      have H' := Aside0.mk H
      clear H
      go_wp2
      go_roundg k1
      case measure => have := HK1.out; omega
      case rel => exact ⟨(x8_1), (wrap64 (x9_1 + 1)), (by first | rfl | (simp; done) | (simp [*]; done)), (by first | rfl | (simp; done) | (simp [*]; done)), H', ⟨by have := HK1.out; omega⟩, ⟨by (with_reducible repeat (first | refine blk_drewN ?_ _ | refine blk_drew ?_ | refine blk_alloc ?_ _)); exact BK144.out⟩, ⟨by repeat (first | (with_reducible first | exact HB.out | apply below_alloc | apply pw_below_drewN | apply below_drew1 | refine below_set ?_ GE144.out) | exact HB.out)⟩⟩
    ·rw [if_neg c12] at H
     exact absurd H (by simp)
   ·rw [if_neg c10] at H
    have c10b0 : decide (x9_1 < 32) = false := decide_eq_false c10
    clear c10
    have HC16 := Aside0.mk H
    clear H
    go_upto_region 12 with (fail)
    go_cut [64] (fun v64 wc => ∃ (kq : Nat) (x64_15 : Bool), v64 = .bool x64_15 ∧ Aside0 (signpostlaw1_AddrParts.j1 kq (Go.bits .or .u32 t142 (Go.bits .xor .u32 (IntKind.u32.max) t145)) x64_15 t142 t143 = some r) ∧ Aside0 (kq ≤ k1) ∧ Aside0 (wc.heap[gb144]? = some (.cells #[.int .u32 t142, .int .i64 t143] 24 (0, 0))) ∧ Aside0 (Below w.heap.size w wc))
    case first =>
     have H := HC16.out
     clear HC16
     by_cases c17 : x8_1 = t143
     ·rw [if_pos c17] at H
      have c17b0 : (x8_1 == t143) = true := beq_iff_eq.mpr c17
      have c17b1 : (x8_1 != t143) = false := bne_eq_false_iff_eq.mpr c17
      clear c17
      (first | rw [c17b0] | (simp only [i64_w, i32_w]; rw [c17b0]) | skip)
      replace H := Option.bind_eq_some_iff.mp H
      obtain ⟨t146, A180, H⟩ := H
      replace H : (if t146 = true then ((addr_Has.f t142 t143 (Go.bits .or .u32 t142 (Go.bits .xor .u32 (IntKind.u32.max) t145))).bind fun t147 => (if t147 = true then ((addr_Has.f t142 t143 (Go.bits .or .u32 t142 (Go.bits .andNot .u32 a0 t145))).bind fun t148 => (signpostlaw1_AddrParts.j1 k1 (Go.bits .or .u32 t142 (Go.bits .xor .u32 (IntKind.u32.max) t145)) (!t148) t142 t143)) else (signpostlaw1_AddrParts.j1 k1 (Go.bits .or .u32 t142 (Go.bits .xor .u32 (IntKind.u32.max) t145)) true t142 t143))) else (signpostlaw1_AddrParts.j1 k1 (Go.bits .or .u32 t142 (Go.bits .xor .u32 (IntKind.u32.max) t145)) true t142 t143)) = some r := H
      have A18 := Aside0.mk A180
      clear A180
      by_cases c19 : t146 = true
      ·subst c19
       have H1 : ((addr_Has.f t142 t143 (Go.bits .or .u32 t142 (Go.bits .xor .u32 (IntKind.u32.max) t145))).bind fun t147 => (if t147 = true then ((addr_Has.f t142 t143 (Go.bits .or .u32 t142 (Go.bits .andNot .u32 a0 t145))).bind fun t148 => (signpostlaw1_AddrParts.j1 k1 (Go.bits .or .u32 t142 (Go.bits .xor .u32 (IntKind.u32.max) t145)) (!t148) t142 t143)) else (signpostlaw1_AddrParts.j1 k1 (Go.bits .or .u32 t142 (Go.bits .xor .u32 (IntKind.u32.max) t145)) true t142 t143))) = some r := by rw [if_pos rfl] at H; exact H
       clear H
       have H := H1
       clear H1
       replace H := Option.bind_eq_some_iff.mp H
       obtain ⟨t147, A200, H⟩ := H
       replace H : (if t147 = true then ((addr_Has.f t142 t143 (Go.bits .or .u32 t142 (Go.bits .andNot .u32 a0 t145))).bind fun t148 => (signpostlaw1_AddrParts.j1 k1 (Go.bits .or .u32 t142 (Go.bits .xor .u32 (IntKind.u32.max) t145)) (!t148) t142 t143)) else (signpostlaw1_AddrParts.j1 k1 (Go.bits .or .u32 t142 (Go.bits .xor .u32 (IntKind.u32.max) t145)) true t142 t143)) = some r := H
       have A20 := Aside0.mk A200
       clear A200
       by_cases c21 : t147 = true
       ·subst c21
        have H1 : ((addr_Has.f t142 t143 (Go.bits .or .u32 t142 (Go.bits .andNot .u32 a0 t145))).bind fun t148 => (signpostlaw1_AddrParts.j1 k1 (Go.bits .or .u32 t142 (Go.bits .xor .u32 (IntKind.u32.max) t145)) (!t148) t142 t143)) = some r := by rw [if_pos rfl] at H; exact H
        clear H
        have H := H1
        clear H1
        replace H := Option.bind_eq_some_iff.mp H
        obtain ⟨t148, A220, H⟩ := H
        replace H : (signpostlaw1_AddrParts.j1 k1 (Go.bits .or .u32 t142 (Go.bits .xor .u32 (IntKind.u32.max) t145)) (!t148) t142 t143) = some r := H
        have A22 := Aside0.mk A220
        clear A220
        have H' := Aside0.mk H
        clear H
        have hcz23_0 : wr.cell? ⟨gb144, 0, none⟩ = some (.int .u32 t142) := (blk_cell BK144.out 0).trans rfl
        have hcz23_1 : wr.cell? ⟨gb144, 1, none⟩ = some (.int .i64 t143) := (blk_cell BK144.out 1).trans rfl
        have hfz23_0 := blk_frozen BK144.out 0
        have hfz23_1 := blk_frozen BK144.out 1
        go_wp2_with (first | (go_at_call 17; (with_reducible refine (addr_Has.calls t142 t143 t142 true _ A18.out).mono ?_); rintro e w24 ⟨rfl, hb⟩; have n0_ := Aside0.mk (blk_below (g := gb144) (o := .cells #[.int .u32 t142, .int .i64 t143] 24 (0, 0)) (by (with_reducible repeat (first | refine blk_drewN ?_ _ | refine blk_drew ?_ | refine blk_alloc ?_ _)); exact BK144.out) hb); have n1_ := Aside0.mk (below_step (by repeat (first | (with_reducible first | exact HB.out | apply below_alloc | apply pw_below_drewN | apply below_drew1 | refine below_set ?_ GE144.out) | exact HB.out)) hb); clear BK144; clear HB; have BK144 := n0_; have HB := n1_; clear n0_ n1_; (try clear hb); (try clear hb2); (try clear hk); (try clear hi); have hcz25_0 : w24.cell? ⟨gb144, 0, none⟩ = some (.int .u32 t142) := (blk_cell BK144.out 0).trans rfl; have hcz25_1 : w24.cell? ⟨gb144, 1, none⟩ = some (.int .i64 t143) := (blk_cell BK144.out 1).trans rfl; have hfz25_0 := blk_frozen BK144.out 0; have hfz25_1 := blk_frozen BK144.out 1) | (go_at_call 17; (with_reducible refine (addr_Has.calls t142 t143 (Go.bits .or .u32 t142 (Go.bits .xor .u32 (IntKind.u32.max) t145)) true _ A20.out).mono ?_); rintro e w26 ⟨rfl, hb⟩; have n0_ := Aside0.mk (blk_below (g := gb144) (o := .cells #[.int .u32 t142, .int .i64 t143] 24 (0, 0)) (by (with_reducible repeat (first | refine blk_drewN ?_ _ | refine blk_drew ?_ | refine blk_alloc ?_ _)); exact BK144.out) hb); have n1_ := Aside0.mk (below_step (by repeat (first | (with_reducible first | exact HB.out | apply below_alloc | apply pw_below_drewN | apply below_drew1 | refine below_set ?_ GE144.out) | exact HB.out)) hb); clear BK144; clear HB; have BK144 := n0_; have HB := n1_; clear n0_ n1_; (try clear hb); (try clear hb2); (try clear hk); (try clear hi); have hcz27_0 : w26.cell? ⟨gb144, 0, none⟩ = some (.int .u32 t142) := (blk_cell BK144.out 0).trans rfl; have hcz27_1 : w26.cell? ⟨gb144, 1, none⟩ = some (.int .i64 t143) := (blk_cell BK144.out 1).trans rfl; have hfz27_0 := blk_frozen BK144.out 0; have hfz27_1 := blk_frozen BK144.out 1) | (go_at_call 17; (with_reducible refine (addr_Has.calls t142 t143 (Go.bits .or .u32 t142 (Go.bits .andNot .u32 a0 t145)) t148 _ A22.out).mono ?_); rintro e w28 ⟨rfl, hb⟩; have n0_ := Aside0.mk (blk_below (g := gb144) (o := .cells #[.int .u32 t142, .int .i64 t143] 24 (0, 0)) (by (with_reducible repeat (first | refine blk_drewN ?_ _ | refine blk_drew ?_ | refine blk_alloc ?_ _)); exact BK144.out) hb); have n1_ := Aside0.mk (below_step (by repeat (first | (with_reducible first | exact HB.out | apply below_alloc | apply pw_below_drewN | apply below_drew1 | refine below_set ?_ GE144.out) | exact HB.out)) hb); clear BK144; clear HB; have BK144 := n0_; have HB := n1_; clear n0_ n1_; (try clear hb); (try clear hb2); (try clear hk); (try clear hi)))
        go_meet
        case rel => exact ⟨_, (!t148), (by first | rfl | (simp; done) | (simp [*]; done)), H', ⟨by have := HK1.out; first | omega | exact Nat.le_refl _⟩, ⟨by (with_reducible repeat (first | refine blk_drewN ?_ _ | refine blk_drew ?_ | refine blk_alloc ?_ _)); exact BK144.out⟩, ⟨by repeat (first | (with_reducible first | exact HB.out | apply below_alloc | apply pw_below_drewN | apply below_drew1 | refine below_set ?_ GE144.out) | exact HB.out)⟩⟩
       ·replace c21 := Bool.eq_false_iff.mpr c21
        subst c21
        have H1 : (signpostlaw1_AddrParts.j1 k1 (Go.bits .or .u32 t142 (Go.bits .xor .u32 (IntKind.u32.max) t145)) true t142 t143) = some r := by rw [if_neg (show ¬ (false = true) by decide)] at H; exact H
        clear H
        have H := H1
        exact absurd (H.trans (congrArg some hr)) (signpostlaw1_AddrParts.j1_dead _ _ _ _)
      ·replace c19 := Bool.eq_false_iff.mpr c19
       subst c19
       have H1 : (signpostlaw1_AddrParts.j1 k1 (Go.bits .or .u32 t142 (Go.bits .xor .u32 (IntKind.u32.max) t145)) true t142 t143) = some r := by rw [if_neg (show ¬ (false = true) by decide)] at H; exact H
       clear H
       have H := H1
       exact absurd (H.trans (congrArg some hr)) (signpostlaw1_AddrParts.j1_dead _ _ _ _)
     ·rw [if_neg c17] at H
      exact absurd (H.trans (congrArg some hr)) (signpostlaw1_AddrParts.j1_dead _ _ _ _)
    case rest =>
     clear HC16
     try clear c1
     try clear c2
     try clear p2
     try clear c4
     try clear p6
     try clear c10
     try clear c10b0
     try clear c11
     try clear c12
     try clear c12b0
     try clear c12b1
     try clear c14
     try clear c14b0
     try clear c14b1
     try clear c15
     try clear c15b0
     try clear c15b1
     try clear c16
     try clear c17
     try clear c17b0
     try clear c17b1
     try clear c19
     try clear c21
     try clear hcz23_0
     try clear hcz23_1
     try clear hcz25_0
     try clear hcz25_1
     try clear hcz27_0
     try clear hcz27_1
     try clear hcz29_0
     try clear hcz29_1
     try clear hcz31_0
     try clear hcz31_1
     try clear hcz33_0
     try clear hcz33_1
     try clear hcz35_0
     try clear hcz35_1
     try clear hcz7_0
     try clear hcz7_1
     try clear hcz9_0
     try clear hcz9_1
     try clear hfz23_0
     try clear hfz23_1
     try clear hfz25_0
     try clear hfz25_1
     try clear hfz27_0
     try clear hfz27_1
     try clear hfz29_0
     try clear hfz29_1
     try clear hfz31_0
     try clear hfz31_1
     try clear hfz33_0
     try clear hfz33_1
     try clear hfz35_0
     try clear hfz35_1
     try clear hfz7_0
     try clear hfz7_1
     try clear hfz9_0
     try clear hfz9_1
     try clear p2
     obtain ⟨kq, x64_15, rfl, HA, HJ15, BK144, HB⟩ := hcut
     cases kq with
     | zero => exact absurd HA.out (by simp [signpostlaw1_AddrParts.j1])
     | succ kj15 =>
      have H := HA.out
      clear HA
      simp only [signpostlaw1_AddrParts.j1] at H
      by_cases c36 : x64_15 = true
      ·subst c36
       have H1 : (some false) = some r := by rw [if_pos rfl] at H; exact H
       clear H
       have H := H1
       clear H1
       exact absurd ((Option.some.inj H).trans hr) (by decide)
      ·replace c36 := Bool.eq_false_iff.mpr c36
       subst c36
       have H1 : (if t142 = 0 then (if (Go.bits .or .u32 t142 (Go.bits .xor .u32 (IntKind.u32.max) t145)) = 4294967295 then ((signpostlaw1_known.f).bind fun t149 => (some t149)) else ((addr_Has.f t142 t143 (((Go.bits .or .u32 t142 (Go.bits .xor .u32 (IntKind.u32.max) t145)) + 1) % 4294967296)).bind fun t150 => (if t150 = true then (some false) else ((signpostlaw1_known.f).bind fun t151 => (some t151))))) else ((addr_Has.f t142 t143 ((t142 - 1) % 4294967296)).bind fun t152 => (if t152 = true then (some false) else (if (Go.bits .or .u32 t142 (Go.bits .xor .u32 (IntKind.u32.max) t145)) = 4294967295 then ((signpostlaw1_known.f).bind fun t153 => (some t153)) else ((addr_Has.f t142 t143 (((Go.bits .or .u32 t142 (Go.bits .xor .u32 (IntKind.u32.max) t145)) + 1) % 4294967296)).bind fun t154 => (if t154 = true then (some false) else ((signpostlaw1_known.f).bind fun t155 => (some t155)))))))) = some r := by rw [if_neg (show ¬ (false = true) by decide)] at H; exact H
       clear H
       have H := H1
       clear H1
       by_cases c37 : t142 = 0
       ·rw [if_pos c37] at H
        have c37b0 : (t142 == 0) = true := beq_iff_eq.mpr c37
        have c37b1 : (t142 != 0) = false := bne_eq_false_iff_eq.mpr c37
        clear c37
        by_cases c38 : (Go.bits .or .u32 t142 (Go.bits .xor .u32 (IntKind.u32.max) t145)) = 4294967295
        ·rw [if_pos c38] at H
         have c38b0 : ((Go.bits .or .u32 t142 (Go.bits .xor .u32 (IntKind.u32.max) t145)) == 4294967295) = true := beq_iff_eq.mpr c38
         have c38b1 : ((Go.bits .or .u32 t142 (Go.bits .xor .u32 (IntKind.u32.max) t145)) != 4294967295) = false := bne_eq_false_iff_eq.mpr c38
         clear c38
         replace H := Option.bind_eq_some_iff.mp H
         obtain ⟨t149, A390, H⟩ := H
         replace H : (some t149) = some r := H
         have A39 := Aside0.mk A390
         clear A390
         obtain rfl := Option.some.inj H
         have hcz40_0 : wc.cell? ⟨gb144, 0, none⟩ = some (.int .u32 t142) := (blk_cell BK144.out 0).trans rfl
         have hcz40_1 : wc.cell? ⟨gb144, 1, none⟩ = some (.int .i64 t143) := (blk_cell BK144.out 1).trans rfl
         have hfz40_0 := blk_frozen BK144.out 0
         have hfz40_1 := blk_frozen BK144.out 1
         go_wp2_with (first | (go_at_call 15; (with_reducible refine (signpostlaw1_known.calls  t149 _ (HENV.out.below (by repeat (first | (with_reducible first | exact HB.out | apply below_alloc | apply pw_below_drewN | apply below_drew1 | refine below_set ?_ GE144.out) | exact HB.out))) A39.out).mono ?_); rintro e w41 ⟨rfl, hb⟩; have n0_ := Aside0.mk (blk_below (g := gb144) (o := .cells #[.int .u32 t142, .int .i64 t143] 24 (0, 0)) (by (with_reducible repeat (first | refine blk_drewN ?_ _ | refine blk_drew ?_ | refine blk_alloc ?_ _)); exact BK144.out) hb); have n1_ := Aside0.mk (below_step (by repeat (first | (with_reducible first | exact HB.out | apply below_alloc | apply pw_below_drewN | apply below_drew1 | refine below_set ?_ GE144.out) | exact HB.out)) hb); clear BK144; clear HB; have BK144 := n0_; have HB := n1_; clear n0_ n1_; (try clear hb); (try clear hb2); (try clear hk); (try clear hi)))
         go_ret
         exact ⟨by first | rfl | (simp [errW_none, errW_some] <;> rfl) | (simp [*, errW_none, errW_some] <;> rfl), by repeat (first | (with_reducible first | exact HB.out | apply below_alloc | apply pw_below_drewN | apply below_drew1 | refine below_set ?_ GE144.out) | exact HB.out)⟩
        ·rw [if_neg c38] at H
         have c38b0 : ((Go.bits .or .u32 t142 (Go.bits .xor .u32 (IntKind.u32.max) t145)) == 4294967295) = false := beq_eq_false_iff_ne.mpr c38
         have c38b1 : ((Go.bits .or .u32 t142 (Go.bits .xor .u32 (IntKind.u32.max) t145)) != 4294967295) = true := bne_iff_ne.mpr c38
         replace H := Option.bind_eq_some_iff.mp H
         obtain ⟨t150, A420, H⟩ := H
         replace H : (if t150 = true then (some false) else ((signpostlaw1_known.f).bind fun t151 => (some t151))) = some r := H
         have A42 := Aside0.mk A420
         clear A420
         by_cases c43 : t150 = true
         ·subst c43
          have H1 : (some false) = some r := by rw [if_pos rfl] at H; exact H
          clear H
          have H := H1
          clear H1
          exact absurd ((Option.some.inj H).trans hr) (by decide)
         ·replace c43 := Bool.eq_false_iff.mpr c43
          subst c43
          have H1 : ((signpostlaw1_known.f).bind fun t151 => (some t151)) = some r := by rw [if_neg (show ¬ (false = true) by decide)] at H; exact H
          clear H
          have H := H1
          clear H1
          replace H := Option.bind_eq_some_iff.mp H
          obtain ⟨t151, A460, H⟩ := H
          replace H : (some t151) = some r := H
          have A46 := Aside0.mk A460
          clear A460
          obtain rfl := Option.some.inj H
          have hcz47_0 : wc.cell? ⟨gb144, 0, none⟩ = some (.int .u32 t142) := (blk_cell BK144.out 0).trans rfl
          have hcz47_1 : wc.cell? ⟨gb144, 1, none⟩ = some (.int .i64 t143) := (blk_cell BK144.out 1).trans rfl
          have hfz47_0 := blk_frozen BK144.out 0
          have hfz47_1 := blk_frozen BK144.out 1
          go_wp2_with (first | (go_at_call 17; (with_reducible refine (addr_Has.calls t142 t143 (((Go.bits .or .u32 t142 (Go.bits .xor .u32 (IntKind.u32.max) t145)) + 1) % 4294967296) false _ A42.out).mono ?_); rintro e w48 ⟨rfl, hb⟩; have n0_ := Aside0.mk (blk_below (g := gb144) (o := .cells #[.int .u32 t142, .int .i64 t143] 24 (0, 0)) (by (with_reducible repeat (first | refine blk_drewN ?_ _ | refine blk_drew ?_ | refine blk_alloc ?_ _)); exact BK144.out) hb); have n1_ := Aside0.mk (below_step (by repeat (first | (with_reducible first | exact HB.out | apply below_alloc | apply pw_below_drewN | apply below_drew1 | refine below_set ?_ GE144.out) | exact HB.out)) hb); clear BK144; clear HB; have BK144 := n0_; have HB := n1_; clear n0_ n1_; (try clear hb); (try clear hb2); (try clear hk); (try clear hi)) | (go_at_call 15; (with_reducible refine (signpostlaw1_known.calls  t151 _ (HENV.out.below (by repeat (first | (with_reducible first | exact HB.out | apply below_alloc | apply pw_below_drewN | apply below_drew1 | refine below_set ?_ GE144.out) | exact HB.out))) A46.out).mono ?_); rintro e w49 ⟨rfl, hb⟩; have n0_ := Aside0.mk (blk_below (g := gb144) (o := .cells #[.int .u32 t142, .int .i64 t143] 24 (0, 0)) (by (with_reducible repeat (first | refine blk_drewN ?_ _ | refine blk_drew ?_ | refine blk_alloc ?_ _)); exact BK144.out) hb); have n1_ := Aside0.mk (below_step (by repeat (first | (with_reducible first | exact HB.out | apply below_alloc | apply pw_below_drewN | apply below_drew1 | refine below_set ?_ GE144.out) | exact HB.out)) hb); clear BK144; clear HB; have BK144 := n0_; have HB := n1_; clear n0_ n1_; (try clear hb); (try clear hb2); (try clear hk); (try clear hi)))
          go_ret
          exact ⟨by first | rfl | (simp [errW_none, errW_some] <;> rfl) | (simp [*, errW_none, errW_some] <;> rfl), by repeat (first | (with_reducible first | exact HB.out | apply below_alloc | apply pw_below_drewN | apply below_drew1 | refine below_set ?_ GE144.out) | exact HB.out)⟩
       ·rw [if_neg c37] at H
        have c37b0 : (t142 == 0) = false := beq_eq_false_iff_ne.mpr c37
        have c37b1 : (t142 != 0) = true := bne_iff_ne.mpr c37
        replace H := Option.bind_eq_some_iff.mp H
        obtain ⟨t152, A500, H⟩ := H
        replace H : (if t152 = true then (some false) else (if (Go.bits .or .u32 t142 (Go.bits .xor .u32 (IntKind.u32.max) t145)) = 4294967295 then ((signpostlaw1_known.f).bind fun t153 => (some t153)) else ((addr_Has.f t142 t143 (((Go.bits .or .u32 t142 (Go.bits .xor .u32 (IntKind.u32.max) t145)) + 1) % 4294967296)).bind fun t154 => (if t154 = true then (some false) else ((signpostlaw1_known.f).bind fun t155 => (some t155)))))) = some r := H
        have A50 := Aside0.mk A500
        clear A500
        by_cases c51 : t152 = true
        ·subst c51
         have H1 : (some false) = some r := by rw [if_pos rfl] at H; exact H
         clear H
         have H := H1
         clear H1
         exact absurd ((Option.some.inj H).trans hr) (by decide)
        ·replace c51 := Bool.eq_false_iff.mpr c51
         subst c51
         have H1 : (if (Go.bits .or .u32 t142 (Go.bits .xor .u32 (IntKind.u32.max) t145)) = 4294967295 then ((signpostlaw1_known.f).bind fun t153 => (some t153)) else ((addr_Has.f t142 t143 (((Go.bits .or .u32 t142 (Go.bits .xor .u32 (IntKind.u32.max) t145)) + 1) % 4294967296)).bind fun t154 => (if t154 = true then (some false) else ((signpostlaw1_known.f).bind fun t155 => (some t155))))) = some r := by rw [if_neg (show ¬ (false = true) by decide)] at H; exact H
         clear H
         have H := H1
         clear H1
         by_cases c54 : (Go.bits .or .u32 t142 (Go.bits .xor .u32 (IntKind.u32.max) t145)) = 4294967295
         ·rw [if_pos c54] at H
          have c54b0 : ((Go.bits .or .u32 t142 (Go.bits .xor .u32 (IntKind.u32.max) t145)) == 4294967295) = true := beq_iff_eq.mpr c54
          have c54b1 : ((Go.bits .or .u32 t142 (Go.bits .xor .u32 (IntKind.u32.max) t145)) != 4294967295) = false := bne_eq_false_iff_eq.mpr c54
          clear c54
          replace H := Option.bind_eq_some_iff.mp H
          obtain ⟨t153, A550, H⟩ := H
          replace H : (some t153) = some r := H
          have A55 := Aside0.mk A550
          clear A550
          obtain rfl := Option.some.inj H
          have hcz56_0 : wc.cell? ⟨gb144, 0, none⟩ = some (.int .u32 t142) := (blk_cell BK144.out 0).trans rfl
          have hcz56_1 : wc.cell? ⟨gb144, 1, none⟩ = some (.int .i64 t143) := (blk_cell BK144.out 1).trans rfl
          have hfz56_0 := blk_frozen BK144.out 0
          have hfz56_1 := blk_frozen BK144.out 1
          go_wp2_with (first | (go_at_call 17; (with_reducible refine (addr_Has.calls t142 t143 ((t142 - 1) % 4294967296) false _ A50.out).mono ?_); rintro e w57 ⟨rfl, hb⟩; have n0_ := Aside0.mk (blk_below (g := gb144) (o := .cells #[.int .u32 t142, .int .i64 t143] 24 (0, 0)) (by (with_reducible repeat (first | refine blk_drewN ?_ _ | refine blk_drew ?_ | refine blk_alloc ?_ _)); exact BK144.out) hb); have n1_ := Aside0.mk (below_step (by repeat (first | (with_reducible first | exact HB.out | apply below_alloc | apply pw_below_drewN | apply below_drew1 | refine below_set ?_ GE144.out) | exact HB.out)) hb); clear BK144; clear HB; have BK144 := n0_; have HB := n1_; clear n0_ n1_; (try clear hb); (try clear hb2); (try clear hk); (try clear hi)) | (go_at_call 15; (with_reducible refine (signpostlaw1_known.calls  t153 _ (HENV.out.below (by repeat (first | (with_reducible first | exact HB.out | apply below_alloc | apply pw_below_drewN | apply below_drew1 | refine below_set ?_ GE144.out) | exact HB.out))) A55.out).mono ?_); rintro e w58 ⟨rfl, hb⟩; have n0_ := Aside0.mk (blk_below (g := gb144) (o := .cells #[.int .u32 t142, .int .i64 t143] 24 (0, 0)) (by (with_reducible repeat (first | refine blk_drewN ?_ _ | refine blk_drew ?_ | refine blk_alloc ?_ _)); exact BK144.out) hb); have n1_ := Aside0.mk (below_step (by repeat (first | (with_reducible first | exact HB.out | apply below_alloc | apply pw_below_drewN | apply below_drew1 | refine below_set ?_ GE144.out) | exact HB.out)) hb); clear BK144; clear HB; have BK144 := n0_; have HB := n1_; clear n0_ n1_; (try clear hb); (try clear hb2); (try clear hk); (try clear hi)))
          go_ret
          exact ⟨by first | rfl | (simp [errW_none, errW_some] <;> rfl) | (simp [*, errW_none, errW_some] <;> rfl), by repeat (first | (with_reducible first | exact HB.out | apply below_alloc | apply pw_below_drewN | apply below_drew1 | refine below_set ?_ GE144.out) | exact HB.out)⟩
         ·rw [if_neg c54] at H
          have c54b0 : ((Go.bits .or .u32 t142 (Go.bits .xor .u32 (IntKind.u32.max) t145)) == 4294967295) = false := beq_eq_false_iff_ne.mpr c54
          have c54b1 : ((Go.bits .or .u32 t142 (Go.bits .xor .u32 (IntKind.u32.max) t145)) != 4294967295) = true := bne_iff_ne.mpr c54
          replace H := Option.bind_eq_some_iff.mp H
          obtain ⟨t154, A590, H⟩ := H
          replace H : (if t154 = true then (some false) else ((signpostlaw1_known.f).bind fun t155 => (some t155))) = some r := H
          have A59 := Aside0.mk A590
          clear A590
          by_cases c60 : t154 = true
          ·subst c60
           have H1 : (some false) = some r := by rw [if_pos rfl] at H; exact H
           clear H
           have H := H1
           clear H1
           exact absurd ((Option.some.inj H).trans hr) (by decide)
          ·replace c60 := Bool.eq_false_iff.mpr c60
           subst c60
           have H1 : ((signpostlaw1_known.f).bind fun t155 => (some t155)) = some r := by rw [if_neg (show ¬ (false = true) by decide)] at H; exact H
           clear H
           have H := H1
           clear H1
           replace H := Option.bind_eq_some_iff.mp H
           obtain ⟨t155, A650, H⟩ := H
           replace H : (some t155) = some r := H
           have A65 := Aside0.mk A650
           clear A650
           obtain rfl := Option.some.inj H
           have hcz66_0 : wc.cell? ⟨gb144, 0, none⟩ = some (.int .u32 t142) := (blk_cell BK144.out 0).trans rfl
           have hcz66_1 : wc.cell? ⟨gb144, 1, none⟩ = some (.int .i64 t143) := (blk_cell BK144.out 1).trans rfl
           have hfz66_0 := blk_frozen BK144.out 0
           have hfz66_1 := blk_frozen BK144.out 1
           go_wp2_with (first | (go_at_call 17; (with_reducible refine (addr_Has.calls t142 t143 ((t142 - 1) % 4294967296) false _ A50.out).mono ?_); rintro e w67 ⟨rfl, hb⟩; have n0_ := Aside0.mk (blk_below (g := gb144) (o := .cells #[.int .u32 t142, .int .i64 t143] 24 (0, 0)) (by (with_reducible repeat (first | refine blk_drewN ?_ _ | refine blk_drew ?_ | refine blk_alloc ?_ _)); exact BK144.out) hb); have n1_ := Aside0.mk (below_step (by repeat (first | (with_reducible first | exact HB.out | apply below_alloc | apply pw_below_drewN | apply below_drew1 | refine below_set ?_ GE144.out) | exact HB.out)) hb); clear BK144; clear HB; have BK144 := n0_; have HB := n1_; clear n0_ n1_; (try clear hb); (try clear hb2); (try clear hk); (try clear hi); have hcz68_0 : w67.cell? ⟨gb144, 0, none⟩ = some (.int .u32 t142) := (blk_cell BK144.out 0).trans rfl; have hcz68_1 : w67.cell? ⟨gb144, 1, none⟩ = some (.int .i64 t143) := (blk_cell BK144.out 1).trans rfl; have hfz68_0 := blk_frozen BK144.out 0; have hfz68_1 := blk_frozen BK144.out 1) | (go_at_call 17; (with_reducible refine (addr_Has.calls t142 t143 (((Go.bits .or .u32 t142 (Go.bits .xor .u32 (IntKind.u32.max) t145)) + 1) % 4294967296) false _ A59.out).mono ?_); rintro e w69 ⟨rfl, hb⟩; have n0_ := Aside0.mk (blk_below (g := gb144) (o := .cells #[.int .u32 t142, .int .i64 t143] 24 (0, 0)) (by (with_reducible repeat (first | refine blk_drewN ?_ _ | refine blk_drew ?_ | refine blk_alloc ?_ _)); exact BK144.out) hb); have n1_ := Aside0.mk (below_step (by repeat (first | (with_reducible first | exact HB.out | apply below_alloc | apply pw_below_drewN | apply below_drew1 | refine below_set ?_ GE144.out) | exact HB.out)) hb); clear BK144; clear HB; have BK144 := n0_; have HB := n1_; clear n0_ n1_; (try clear hb); (try clear hb2); (try clear hk); (try clear hi)) | (go_at_call 15; (with_reducible refine (signpostlaw1_known.calls  t155 _ (HENV.out.below (by repeat (first | (with_reducible first | exact HB.out | apply below_alloc | apply pw_below_drewN | apply below_drew1 | refine below_set ?_ GE144.out) | exact HB.out))) A65.out).mono ?_); rintro e w70 ⟨rfl, hb⟩; have n0_ := Aside0.mk (blk_below (g := gb144) (o := .cells #[.int .u32 t142, .int .i64 t143] 24 (0, 0)) (by (with_reducible repeat (first | refine blk_drewN ?_ _ | refine blk_drew ?_ | refine blk_alloc ?_ _)); exact BK144.out) hb); have n1_ := Aside0.mk (below_step (by repeat (first | (with_reducible first | exact HB.out | apply below_alloc | apply pw_below_drewN | apply below_drew1 | refine below_set ?_ GE144.out) | exact HB.out)) hb); clear BK144; clear HB; have BK144 := n0_; have HB := n1_; clear n0_ n1_; (try clear hb); (try clear hb2); (try clear hk); (try clear hi)))
           go_ret
           exact ⟨by first | rfl | (simp [errW_none, errW_some] <;> rfl) | (simp [*, errW_none, errW_some] <;> rfl), by repeat (first | (with_reducible first | exact HB.out | apply below_alloc | apply pw_below_drewN | apply below_drew1 | refine below_set ?_ GE144.out) | exact HB.out)⟩
end Go.Proofs.YtokfgajfkopelaaDoor.BP
namespace Go.Proofs.YtokfgajfkopelaaDoor.Mine
open Go.RowKit Go.Proofs.YtokfgajfkopelaaDoorW.PrintWords Go.Proofs.YtokfgajfkopelaaDoorW.PrintLast Go.Proofs.YtokfgajfkopelaaDoorW.PrintMore
set_option linter.unusedVariables false
set_option linter.unusedSimpArgs false
theorem mask_bit (N i : Nat) (hN : N ≤ 32) (hi : i < 32) : (bits .and .u32 (shr .u32 (maskI (N : Int)) (31 - (i : Int))) 1 = 1) ↔ i < N := by
  have h : ∀ N, N < 33 → ∀ i, i < 32 → ((bits .and .u32 (shr .u32 (maskI ((N : Nat) : Int)) (31 - ((i : Nat) : Int))) 1 = 1) ↔ i < N) := by decide +kernel
  exact h N (by omega) i hi
theorem mask_rest (N : Nat) (hN : N ≤ 32) : bits .xor .u32 (IntKind.u32.max) (maskI (N : Int)) = lo (N : Int) - 1 := by
  have h : ∀ N, N < 33 → bits .xor .u32 (IntKind.u32.max) (maskI ((N : Nat) : Int)) = lo ((N : Nat) : Int) - 1 := by decide +kernel
  exact h N (by omega)
theorem or_in (a n y : Int) (h0 : 0 ≤ a) (h1 : a < 4294967296) (n0 : 0 ≤ n) (hr : a % lo n = 0) (y0 : 0 ≤ y) (y1 : y < lo n) : bits .or .u32 a y = a + y := by
  have hl := lo_le n n0
  exact bits_join .u32 32 (by decide) (fun x x0 x1 => by rw [IntKind.wrap_u32]; exact Int.emod_eq_of_lt x0 (by exact x1)) (32 - n).toNat a y h0 hr (by exact h1) y0 y1 (by show y < 4294967296; omega)
theorem has_eq (a n x : Int) (hp : rightB a n = true) : hasB a n x = decide (a ≤ x ∧ x < a + lo n) := by
  by_cases h : a ≤ x ∧ x < a + lo n
  · rw [decide_eq_true h]
    exact (hasB_iff a n x hp).2 ((cut_block a n x ((right_iff a n).1 hp).2.2).2 h)
  · rw [decide_eq_false h]
    cases hh : hasB a n x
    · rfl
    · exact absurd ((cut_block a n x ((right_iff a n).1 hp).2.2).1 ((hasB_iff a n x hp).1 hh)) h
theorem block_top (a n : Int) (h0 : 0 ≤ a) (h1 : a < 4294967296) (hp : rightB a n = true) : a + lo n ≤ 4294967296 := by
  obtain ⟨n0, n1, h2⟩ := (right_iff a n).1 hp
  obtain ⟨c, hc⟩ := lo_dvd 0 n n0 n1
  rw [lo_zero] at hc
  have hl := lo_pos n
  obtain ⟨q, hq⟩ := Int.dvd_of_emod_eq_zero h2
  have : q < c := by
    by_cases hh : q < c
    · exact hh
    · exfalso
      have := Int.mul_le_mul_of_nonneg_left (show c ≤ q by omega) (Int.le_of_lt hl)
      omega
  have h3 := Int.mul_le_mul_of_nonneg_left (show q + 1 ≤ c by omega) (Int.le_of_lt hl)
  rw [Int.mul_add, Int.mul_one] at h3
  omega
theorem parts_l0 (x A : Int) (N : Nat) (hN : N ≤ 32) (x0 : 0 ≤ x) (x1 : x < 4294967296) (A0 : 0 ≤ A) (A1 : A < 4294967296) (hp : rightB A N = true) : ∀ (d k i : Nat), i + d = 32 → d + 3 < k →
    BP.signpostlaw1_AddrParts.l0 k x (maskI N) (A + (lo N - 1)) ((min i N : Nat) : Int) i A N = some true := by
  intro d
  induction d with
  | zero =>
    intro k i hi hk
    obtain ⟨k, rfl⟩ : ∃ j, k = j + 2 := ⟨k - 2, by omega⟩
    obtain rfl : i = 32 := by omega
    obtain ⟨n0, n1, h2⟩ := (right_iff A N).1 hp
    have hl := lo_pos (N : Int)
    have ht := block_top A N A0 A1 hp
    have e2 : bits .andNot .u32 x (maskI (N : Int)) = x % lo N := by
      rw [andNot_mask x N x0 x1, clampI_in (N : Int) n0 n1]
    have f0 := Int.emod_nonneg x (Int.ne_of_gt hl)
    have f1 := Int.emod_lt_of_pos x hl
    simp only [BP.signpostlaw1_AddrParts.l0]
    rw [if_neg (by omega), if_pos (by omega), has_f A N A A0 A1 A0 A1, has_f A N (A + (lo N - 1)) A0 A1 (by omega) (by omega), e2, or_in A N (x % lo N) A0 A1 n0 h2 f0 f1, has_f A N (A + x % lo N) A0 A1 (by omega) (by omega)]
    rw [has_eq A N A hp, has_eq A N _ hp, has_eq A N _ hp, decide_eq_true (show A ≤ A ∧ A < A + lo N by omega), decide_eq_true (show A ≤ A + (lo N - 1) ∧ A + (lo N - 1) < A + lo N by omega), decide_eq_true (show A ≤ A + x % lo N ∧ A + x % lo N < A + lo N by omega)]
    simp only [Option.bind_some, if_true, BP.signpostlaw1_AddrParts.j1]
    rw [if_neg (by decide), known_f]
    have hlow : ∀ _ : A ≠ 0, BP.addr_Has.f A N ((A - 1) % 4294967296) = some false := by
      intro hz
      rw [Int.emod_eq_of_lt (by omega) (by omega), has_f A N (A - 1) A0 A1 (by omega) (by omega), has_eq A N _ hp, decide_eq_false (by omega)]
    have hhigh : ∀ _ : ¬ A + (lo N - 1) = 4294967295, BP.addr_Has.f A N ((A + (lo N - 1) + 1) % 4294967296) = some false := by
      intro hz
      rw [Int.emod_eq_of_lt (by omega) (by omega), has_f A N _ A0 A1 (by omega) (by omega), has_eq A N _ hp, decide_eq_false (by omega)]
    by_cases hz : A = 0
    · rw [if_pos hz]
      by_cases hy : A + (lo N - 1) = 4294967295
      · rw [if_pos hy]
        try rfl
      · rw [if_neg hy, hhigh hy]
        try rfl
    · rw [if_neg hz, hlow hz]
      simp only [Option.bind_some]
      rw [if_neg (by decide)]
      by_cases hy : A + (lo N - 1) = 4294967295
      · rw [if_pos hy]
        try rfl
      · rw [if_neg hy, hhigh hy]
        try rfl
  | succ d ih =>
    intro k i hi hk
    obtain ⟨k, rfl⟩ : ∃ j, k = j + 1 := ⟨k - 1, by omega⟩
    simp only [BP.signpostlaw1_AddrParts.l0]
    have hb := mask_bit N i hN (by omega)
    rw [if_pos (by omega), wrap64_id (31 - (i : Int)) (by omega) (by omega), u64_id _ (by omega) (by omega), if_pos (by omega)]
    have hrec := ih k (i + 1) (by omega) (by omega)
    by_cases h : i < N
    · rw [if_pos (hb.2 h), if_pos (by omega), wrap64_id _ (by omega) (by omega), wrap64_id _ (by omega) (by omega)]
      rw [show ((min i N : Nat) : Int) + 1 = ((min (i + 1) N : Nat) : Int) by omega]
      exact hrec
    · rw [if_neg (fun e => h (hb.1 e)), wrap64_id _ (by omega) (by omega)]
      rw [show ((min i N : Nat) : Int) = ((min (i + 1) N : Nat) : Int) by omega]
      exact hrec
theorem AddrParts_plain (k : Nat) (hk : 80 ≤ k) (a n : Int) (a0 : 0 ≤ a) (a1 : a < 4294967296) (n0 : -9223372036854775808 ≤ n) (n1 : n ≤ 9223372036854775807) : BP.signpostlaw1_AddrParts.f k a n = some true := by
  unfold BP.signpostlaw1_AddrParts.f
  rw [any_f k (by omega) a n a0 a1 n0 n1]
  obtain ⟨A, N, hA, hx, A0, A1, N0, N1, hp⟩ := any_is a n a0 a1
  rw [hA, hx]
  clear hA hx
  obtain ⟨N, rfl⟩ := Int.eq_ofNat_of_zero_le N0
  simp only [Option.bind_some]
  rw [mask_f _ (by omega)]
  simp only [Option.bind_some]
  obtain ⟨_, _, h2⟩ := (right_iff A N).1 hp
  have hl := lo_pos (N : Int)
  rw [mask_rest N (by omega), or_in A N _ A0 A1 N0 h2 (by omega) (by omega)]
  exact parts_l0 a A N (by omega) a0 a1 A0 A1 hp 32 k 0 (by omega) (by omega)
theorem AddrParts_row (a0 a1 : Int) (w0 : (Lit.int .u32 a0).wf = true) (w1 : (Lit.int .i64 a1).wf = true) (w : World) (henv : Env w) : Calls Tryd.prog 4 #[.int .u32 a0, .int .i64 a1] w fun e w' => e = .returned (.bool true) ∧ Below w.heap.size w w' :=
  BP.signpostlaw1_AddrParts.calls 80 a0 a1 true rfl w henv (AddrParts_plain 80 (Nat.le_refl _) a0 a1 (wf_u32 w0).1 (wf_u32 w0).2 (wf_i64 w1).1 (wf_i64 w1).2)
end Go.Proofs.YtokfgajfkopelaaDoor.Mine
namespace Go.Proofs.YtokfgajfkopelaaDoor.addrParts
open Go.ChangeShapes Go.WideShapes Go.ChangeAt Go.RowKit
open Go.ChangeMaps (open_string shut_string)
set_option linter.unusedVariables false
theorem own : ownKnob Tryd.prog.godebug = none := by kernel_rfl
def put (cs : Array Value) : Obj → Obj
  | .cells _ t frozen => .cells cs t frozen
  | o => o
noncomputable def laidWorld (os : Os) : World :=
  { World.holding Tryd.prog os ⟨#[], #[], []⟩ with heap := ((((((World.holding Tryd.prog os ⟨#[], #[], []⟩).heap.modify 4 (put #[.int .u8 0, .int .u8 1, .int .u8 28, .int .u8 2, .int .u8 29, .int .u8 14, .int .u8 24, .int .u8 3, .int .u8 30, .int .u8 22, .int .u8 20, .int .u8 15, .int .u8 25, .int .u8 17, .int .u8 4, .int .u8 8, .int .u8 31, .int .u8 27, .int .u8 13, .int .u8 23, .int .u8 21, .int .u8 19, .int .u8 16, .int .u8 7, .int .u8 26, .int .u8 12, .int .u8 18, .int .u8 6, .int .u8 11, .int .u8 5, .int .u8 10, .int .u8 9])).modify 5 (put #[.int .u8 0, .int .u8 1, .int .u8 56, .int .u8 2, .int .u8 57, .int .u8 49, .int .u8 28, .int .u8 3, .int .u8 61, .int .u8 58, .int .u8 42, .int .u8 50, .int .u8 38, .int .u8 29, .int .u8 17, .int .u8 4, .int .u8 62, .int .u8 47, .int .u8 59, .int .u8 36, .int .u8 45, .int .u8 43, .int .u8 51, .int .u8 22, .int .u8 53, .int .u8 39, .int .u8 33, .int .u8 30, .int .u8 24, .int .u8 18, .int .u8 12, .int .u8 5, .int .u8 63, .int .u8 55, .int .u8 48, .int .u8 27, .int .u8 60, .int .u8 41, .int .u8 37, .int .u8 16, .int .u8 46, .int .u8 35, .int .u8 44, .int .u8 21, .int .u8 52, .int .u8 32, .int .u8 23, .int .u8 11, .int .u8 54, .int .u8 26, .int .u8 40, .int .u8 15, .int .u8 34, .int .u8 20, .int .u8 31, .int .u8 10, .int .u8 25, .int .u8 14, .int .u8 19, .int .u8 9, .int .u8 13, .int .u8 8, .int .u8 7, .int .u8 6])).modify 1 (put #[.int .u64 1, .int .u64 10, .int .u64 100, .int .u64 1000, .int .u64 10000, .int .u64 100000, .int .u64 1000000, .int .u64 10000000, .int .u64 100000000, .int .u64 1000000000, .int .u64 10000000000, .int .u64 100000000000, .int .u64 1000000000000, .int .u64 10000000000000, .int .u64 100000000000000, .int .u64 1000000000000000, .int .u64 10000000000000000, .int .u64 100000000000000000, .int .u64 1000000000000000000, .int .u64 10000000000000000000])).modify 3 (put #[.int .u8 128, .int .u8 191, .int .u8 160, .int .u8 191, .int .u8 128, .int .u8 159, .int .u8 144, .int .u8 191, .int .u8 128, .int .u8 143, .int .u8 0, .int .u8 0, .int .u8 0, .int .u8 0, .int .u8 0, .int .u8 0, .int .u8 0, .int .u8 0, .int .u8 0, .int .u8 0, .int .u8 0, .int .u8 0, .int .u8 0, .int .u8 0, .int .u8 0, .int .u8 0, .int .u8 0, .int .u8 0, .int .u8 0, .int .u8 0, .int .u8 0, .int .u8 0])).modify 2 (put (Go.Pinned.utf8FirstZ.map fun z => Value.int .u8 (z : Nat)).toArray)) }
theorem laid_met (os : Os) : laidMet Tryd.prog Rows.addrPartsRow.laid ((laidWorld os).forCall (fun _ _ => 0) ⟨#[], #[.int .u32 0, .int .i64 0], []⟩).memory :=
  laidMet_of_run' 8 (by kernel_rfl) (by kernel_rfl)
theorem reads (os : Os) {H : Type} (enc : TypeId × Value → H) : ∃ places, DataW.whole enc Tryd.prog ((laidWorld os).forCall (fun _ _ => 0) ⟨#[], #[.int .u32 0, .int .i64 0], []⟩).memory Tryd.f4.params.toList Rows.addrPartsSpec.vars false (#[.int .u32 0, .int .i64 0] : Array Value).toList 8 = some ([.lit (.int .u32 0), .lit (.int .i64 0)], [], places) :=
  ⟨[], by kernel_rfl⟩
set_option maxRecDepth 100000 in
theorem lifted (os : Os) (started : os.Started) (H : Type) (enc : TypeId × Value → H) (F : Stop.Interp) :
    ReturnsInHanded {} Tryd.checked os 4 .any ((OpenSpec.ofChange Rows.addrPartsSpec).preRow enc Tryd.prog Tryd.f4 Rows.addrPartsRow.domain false Rows.addrPartsRow.laid) (((OpenSpec.ofChange Rows.addrPartsSpec).at F).post enc Tryd.prog Tryd.f4 false true false false) := by
  obtain ⟨places, hx⟩ := reads os enc
  refine returnsInHanded_of_row (C := Tryd.checked) (s := OpenSpec.ofChange Rows.addrPartsSpec) own started (by kernel_rfl) Tryd.func4
    (witness_row_at (enc := enc) (C := Tryd.checked) false (laidWorld os) #[.int .u32 0, .int .i64 0] rfl (by kernel_rfl) (by kernel_rfl) (by kernel_rfl)
      (OpenSpec.preRow_of_cond 8 hx (by kernel_rfl) (fun k hk => by cases hk) (by kernel_rfl) (laid_met os))) ?_
  intro W base args ds gs before hval0 hW _ _ hsz0 hL hShape _
  have henv : Mine.Env W := Mine.env_of_row hL hShape
  have hsz : (DataW.weightsEach Tryd.prog (Tryd.f4.params.toList ++ (OpenSpec.ofChange Rows.addrPartsSpec).bare.plain.varTypes Tryd.prog) (ds ++ gs)).all (· ≤ reachBytes) = true := hsz0
  have hval : ∀ (j : Nat) t v, Tryd.f4.params[j]? = some t → args[j]? = some v → Value.okWide Tryd.prog W .any base t v := hval0
  have hW' := hW
  obtain ⟨p, q, hA0, hV, rfl, hfz, hnd⟩ := hW
  have hA : DataW.TrodAll enc Tryd.prog W 0 (fun _ => true) true Tryd.f4.params.toList args.toList ds p := hA0
  rw [Tryd.params4] at hA hval hsz
  obtain ⟨v0, vs0, d0, ds0, p0, q0, hargs, rfl, rfl, h0, r0⟩ := trodAll_cons hA
  obtain ⟨v1, vs1, d1, ds1, p1, q1, rfl, rfl, rfl, h1, r1⟩ := trodAll_cons r0
  obtain ⟨rfl, rfl, rfl⟩ := trodAll_nil r1
  obtain rfl : args = #[v0, v1] := by cases args; simp_all
  obtain ⟨rfl, rfl⟩ := trodVars_none hV
  obtain ⟨a0, rfl, rfl, rfl, w0⟩ := open_int Tryd.underlying22 (hval 0 22 v0 rfl rfl) h0
  obtain ⟨a1, rfl, rfl, rfl, w1⟩ := open_int Tryd.underlying3 (hval 1 3 v1 rfl rfl) h1
  clear hA0 hval0 hsz0 hsz
  refine (Mine.AddrParts_row a0 a1 w0 w1 W henv).mono fun e W' ⟨he, bel⟩ => ?_
  subst he
  exact ⟨_, rfl, _, _, _, [], _, [], hW', trodAll_mk1 (shut_bool Tryd.underlying4 _), (trodAll_cons_mk (shut_int Tryd.underlying22 w0) (trodAll_cons_mk (shut_int Tryd.underlying3 w1) trodAll_mk0)), rfl, bel.frame _, fun h => by cases h⟩
theorem said : Rows.AddrPartsSaid :=
  OpenClaim.holds_of_cond 4 Tryd.f4 rfl rfl rfl rfl rfl rfl rfl ⟨rfl, rfl, rfl, rfl, rfl⟩ rfl rfl rfl rfl rfl (by kernel_rfl) Tryd.func4 (by kernel_rfl)
    (of_decide_eq_true (by kernel_rfl)) (by unfold Func.isWrapper; first | (rw [if_pos (by decide +kernel)]; kernel_rfl) | (rw [if_neg (by decide +kernel)]; exact ⟨rfl, rfl⟩))
    (fun os started H enc _ F => by rw [OpenClaim.pre_eq_preRow]; exact lifted os started H enc F)
theorem plain (f : FuncId) (fn : Func) (hf : Tryd.pinned.checked.prog.funcNamed "signpost/signpostlaw1.AddrParts" = some f) (hfn : Tryd.pinned.checked.prog.funcs[f]? = some fn) :
    false = Tryd.pinned.checked.prog.looks [] ∧ ∀ (j : Nat) t, fn.params[j]? = some t → Tryd.pinned.checked.prog.wantsStandIn t = false := by
  obtain rfl : f = 4 := Option.some.inj ((show Tryd.prog.funcNamed "signpost/signpostlaw1.AddrParts" = some 4 by kernel_rfl).symm.trans hf) |>.symm
  obtain rfl : fn = Tryd.f4 := (Option.some.inj (Tryd.func4.symm.trans hfn)).symm
  refine ⟨by kernel_rfl, fun j t ht => ?_⟩
  rw [Tryd.params4] at ht
  rcases j with _ | _ | j
  · obtain rfl : 22 = t := by simpa using ht
    exact (show Tryd.prog.wantsStandIn 22 = false by kernel_rfl)
  · obtain rfl : 3 = t := by simpa using ht
    exact (show Tryd.prog.wantsStandIn 3 = false by kernel_rfl)
  · simp at ht
theorem card : Rows.AddrPartsCardSaid :=
  Claim7.holds_tied_plain_at .later [] _ _ _ _ said (fun _ h => by cases h) (by kernel_rfl) (fun _ h => by cases h) addrParts_row_tie rfl ⟨rfl, rfl⟩ (by kernel_rfl) rfl plain (by kernel_rfl)
end Go.Proofs.YtokfgajfkopelaaDoor.addrParts
namespace Go.Proofs.YtokfgajfkopelaaDoor
theorem addrParts_holds : Rows.AddrPartsCardSaid := addrParts.card
#print axioms addrParts_holds
end Go.Proofs.YtokfgajfkopelaaDoor
