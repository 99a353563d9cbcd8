/- Walks of frame.note, fits and Split. -/
import Derived.Test.YtbjfkonkmgghfaaAJoin
import Derived.Lib.Bytes
namespace Go.Proofs.Ytbjfkonkmgghfaa.Mine
open Go.RowKit Go.Proofs.YtbjfkonkmgghfaaW.PrintWords Go.Proofs.YtbjfkonkmgghfaaW.PrintLast Go.Proofs.YtbjfkonkmgghfaaW.PrintMore
set_option linter.unusedVariables false
set_option linter.unusedSimpArgs false

set_option maxHeartbeats 800000 in
theorem note_any (sub : Int) (A : Option Addr) (n c : Nat) (l : List Int) (w : World) (hc : Kd.C (Kd.int .u8) w A n l) (hl : n ≤ 140737488355328) :
    Calls Try.prog 24 #[.int .i64 sub, .slice A n c] w fun e w' => ∃ v, e = .returned (.agg #[.int .i64 1, .int .i64 sub, v]) ∧ Kd.R (Kd.int .u8) 5 w' w.heap.size (fun _ => True) v l ∧ Below w.heap.size w w' := by
  have HC := Aside0.mk hc
  clear hc
  have hu := Try.underlying36
  go_enter Try.func24, Try.ntmps24
  go_wp2_with (go_at_call 26; refine (clone_any A n c l _ (Kd.C_alloc HC.out _) hl).mono ?_; rintro e w' ⟨v0, rfl, hw1, hb1⟩; obtain ⟨A1, n1, c1, rfl⟩ := R_form hw1; have HBK := Aside0.mk (blk_below (blk_new _ _) hb1); have hcell0 := blk_cell HBK.out 0; have hcell1 := blk_cell HBK.out 1; have hcell2 := blk_cell HBK.out 2; have hfz := blk_frozen HBK.out; simp at hcell0 hcell1 hcell2; have HW1 := Aside0.mk hw1; have HB1 := Aside0.mk hb1; clear hw1 hb1)
  refine bodyPost_ret (results_single (r := .cell 4 36) rfl (.cell w.heap.size 36 #[.int .i64 1, .int .i64 sub, .slice A1 n1 c1] (0, 0) _ rfl (by simpa using blk_set (blk_set (blk_set HBK.out 0 (.int .i64 1)) 1 (.int .i64 sub)) 2 (.slice A1 n1 c1)) hu rfl (by kernel_rfl) .nil)) rfl ?_
  have r1 := Kd.R_set HW1.out HBK.out (by decide) 0 (.int .i64 1)
  have r2 := Kd.R_set r1 (blk_set HBK.out 0 _) (by decide) 1 (.int .i64 sub)
  have r3 := Kd.R_set r2 (blk_set (blk_set HBK.out 0 _) 1 _) (by decide) 2 (.slice A1 n1 c1)
  exact ⟨_, rfl, Kd.R_lower r3 (by simp), below_set (below_set (below_set (below_step (below_alloc (Below.refl _ _) _) HB1.out) (Nat.le_refl _)) (Nat.le_refl _)) (Nat.le_refl _)⟩

theorem fits_any (kind n : Int) (w : World) : Calls Try.prog 25 #[.int .i64 kind, .int .i64 n] w fun e w' => e = .returned (.bool (if kind = 1 then decide (29 ≤ n) else if kind = 2 then decide (23 ≤ n) else if kind = 3 then decide (21 ≤ n) else (n == 19))) ∧ w = w' := by
  by_cases h1 : kind = 1
  · subst h1
    go_enter Try.func25, Try.ntmps25
    go_wp2
    go_ret
    exact ⟨by simp, rfl⟩
  have b1 : (kind == 1) = false := beq_eq_false_iff_ne.mpr h1
  by_cases h2 : kind = 2
  · subst h2
    go_enter Try.func25, Try.ntmps25
    go_wp2
    go_ret
    exact ⟨by simp, rfl⟩
  have b2 : (kind == 2) = false := beq_eq_false_iff_ne.mpr h2
  by_cases h3 : kind = 3
  · subst h3
    go_enter Try.func25, Try.ntmps25
    go_wp2
    go_ret
    exact ⟨by simp, rfl⟩
  have b3 : (kind == 3) = false := beq_eq_false_iff_ne.mpr h3
  go_enter Try.func25, Try.ntmps25
  go_wp2
  go_ret
  exact ⟨by simp [h1, h2, h3], rfl⟩

/-- Equal, of two rows that are read. -/
theorem equal_any (A B : Option Addr) (n m c d : Nat) (l k : List Int) (w : World) (hl : Kd.C (Kd.int .u8) w A n l) (hk : Kd.C (Kd.int .u8) w B m k) :
    Calls Try.prog 23 #[.slice A n c, .slice B m d] w fun e w' => e = .returned (.bool ((strOfNums l).toList == (strOfNums k).toList)) ∧ ∃ nd, w' = w.drewN nd := by
  obtain rfl : l.length = n := hl.1
  obtain rfl : k.length = m := hk.1
  have h1 := Kd.C_string (P := Try.prog) (A := A) (c := c) Try.underlying23 Try.underlying5 Try.underlying9 hl
  have h2 := Kd.C_string (P := Try.prog) (A := B) (c := d) Try.underlying23 Try.underlying5 Try.underlying9 hk
  clear hl hk
  go_enter Try.func23, Try.ntmps23
  go_wp2
  go_ret
  exact ⟨rfl, 0, rfl⟩

theorem or_bytes (a b : Int) (h0 : 0 ≤ a) (h1 : a ≤ 255) (h2 : 0 ≤ b) (h3 : b ≤ 255) : Go.bits .or .i64 (a * 256) b = a * 256 + b :=
  bits_join .i64 32 (by decide) (fun n h0 h1 => by rw [IntKind.wrap_i64]; omega) 8 (a * 256) b (by omega) (by omega) (by omega) h2 (by omega) (by omega)

/-- Split, as the code does it. -/
def splitF (l : List Int) : Int × List Int × Int × Int × Int × List Int :=
  if l.length < 19 then (0, [], 0, 0, 0, [])
  else if ¬ l.take 16 = ones16 then (0, [], 0, 1, 1, [])
  else if l.getD 16 0 * 256 + l.getD 17 0 < 19 then (0, [], 0, 1, 2, [l.getD 16 0, l.getD 17 0])
  else if 4096 < l.getD 16 0 * 256 + l.getD 17 0 then (0, [], 0, 1, 2, [l.getD 16 0, l.getD 17 0])
  else if l.getD 18 0 < 1 then (0, [], 0, 1, 3, [l.getD 18 0])
  else if 4 < l.getD 18 0 then (0, [], 0, 1, 3, [l.getD 18 0])
  else if (if l.getD 18 0 = 1 then decide (29 ≤ l.getD 16 0 * 256 + l.getD 17 0) else if l.getD 18 0 = 2 then decide (23 ≤ l.getD 16 0 * 256 + l.getD 17 0) else if l.getD 18 0 = 3 then decide (21 ≤ l.getD 16 0 * 256 + l.getD 17 0) else (l.getD 16 0 * 256 + l.getD 17 0 == 19)) = false then (0, [], 0, 1, 2, [l.getD 16 0, l.getD 17 0])
  else if (l.length : Int) < l.getD 16 0 * 256 + l.getD 17 0 then (0, [], 0, 0, 0, [])
  else (l.getD 18 0, (l.drop 19).take (l.getD 16 0 * 256 + l.getD 17 0 - 19).toNat, l.getD 16 0 * 256 + l.getD 17 0, 0, 0, [])
/-- What splitF says of a message's head: its two bytes of the length, its kind. -/
def splitG (l : List Int) (a b k : Int) : Int × List Int × Int × Int × Int × List Int :=
  if ¬ l.take 16 = ones16 then (0, [], 0, 1, 1, [])
  else if a * 256 + b < 19 then (0, [], 0, 1, 2, [a, b])
  else if 4096 < a * 256 + b then (0, [], 0, 1, 2, [a, b])
  else if k < 1 then (0, [], 0, 1, 3, [k])
  else if 4 < k then (0, [], 0, 1, 3, [k])
  else if (if k = 1 then decide (29 ≤ a * 256 + b) else if k = 2 then decide (23 ≤ a * 256 + b) else if k = 3 then decide (21 ≤ a * 256 + b) else (a * 256 + b == 19)) = false then (0, [], 0, 1, 2, [a, b])
  else if (l.length : Int) < a * 256 + b then (0, [], 0, 0, 0, [])
  else (k, (l.drop 19).take (a * 256 + b - 19).toNat, a * 256 + b, 0, 0, [])
def SplitPost (w : World) (r : Int × List Int × Int × Int × Int × List Int) (e : Ending) (w' : World) : Prop :=
  ∃ v1 v5 : Value, e = .returned (.tuple #[.int .i64 r.1, v1, .int .i64 r.2.2.1, .agg #[.int .i64 r.2.2.2.1, .int .i64 r.2.2.2.2.1, v5]]) ∧ Kd.R (Kd.int .u8) 5 w' w.heap.size (fun _ => True) v1 r.2.1 ∧ Kd.R (Kd.int .u8) 5 w' w.heap.size (fun _ => True) v5 r.2.2.2.2.2 ∧ Below w.heap.size w w'

set_option maxHeartbeats 1600000 in
theorem split_short (A : Option Addr) (c : Nat) (l : List Int) (w : World) (h1 : l.length < 19) :
    Calls Try.prog 14 #[.slice A l.length c] w (SplitPost w (0, [], 0, 0, 0, [])) := by
  have hu := Try.underlying36
  have h1' : (l.length : Int) < 19 := by omega
  go_enter Try.func14, Try.ntmps14
  go_wp2
  refine bodyPost_ret (results_list (rs := [.tmp 2, .tmp 3, .tmp 4, .cell 5 36]) rfl (by simp) (.tmp (.tmp (.tmp (.cell w.heap.size 36 #[.int .i64 0, .int .i64 0, .slice none 0 0] (0, 0) _ rfl (by simpa using heap_alloc_new w _) hu rfl (by kernel_rfl) .nil))))) rfl ?_
  exact ⟨_, _, rfl, Kd.R_nil _ _ _ _ _, Kd.R_nil _ _ _ _ _, by simpa using below_alloc (Below.refl _ _) _⟩

theorem getD_at {α : Type} (l : List α) (i : Nat) (d : α) (h : i < l.length) : l.getD i d = l[i] := by simp [List.getD, h]
theorem strOf_eq (l k : List Int) (hl : ∀ x ∈ l, 0 ≤ x ∧ x ≤ 255) (hk : ∀ x ∈ k, 0 ≤ x ∧ x ≤ 255) : ((strOfNums l).toList == (strOfNums k).toList) = decide (l = k) := by
  have h : (strOfNums l).toList = (strOfNums k).toList ↔ l = k := by
    constructor
    · intro h
      rw [Lib.strOfNums_toList, Lib.strOfNums_toList] at h
      unfold Lib.bytesOf at h
      induction l generalizing k with
      | nil => cases k with
        | nil => rfl
        | cons y k => simp at h
      | cons x l ih => cases k with
        | nil => simp at h
        | cons y k =>
          simp only [List.map_cons, List.cons.injEq] at h
          have hx := hl x (by simp)
          have hy := hk y (by simp)
          have h1 := congrArg UInt8.toNat h.1
          simp only [UInt8.toNat_ofNat'] at h1
          rw [Nat.mod_eq_of_lt (by omega), Nat.mod_eq_of_lt (by omega)] at h1
          rw [show x = y by omega, ih k (fun z hz => hl z (by simp [hz])) (fun z hz => hk z (by simp [hz])) h.2]
    · intro h; rw [h]
  by_cases e : l = k
  · rw [decide_eq_true e, beq_iff_eq]; exact h.2 e
  · rw [decide_eq_false e, beq_eq_false_iff_ne]; exact fun h' => e (h.1 h')


/-- What is known ahead of a walk of Split at a message's head. -/
def SplitHead (c : Nat) (l : List Int) (a b k : Int) (p1 o1 : Nat) (q : Bool) (w : World) : Prop :=
  l.length ≤ c ∧ 19 ≤ l.length ∧ l.length ≤ 140737488355328 ∧ 0 ≤ a ∧ a ≤ 255 ∧ 0 ≤ b ∧ b ≤ 255 ∧ 0 ≤ k ∧ k ≤ 255 ∧
  (∃ p2 o2, (∀ W : World, (Instr.slice 23 (.slice (some ⟨p1, o1, none⟩) l.length c) (some (.int .i64 16)) (some (.int .i64 18)) none).run Try.prog W = .ok (.slice (some ⟨p2, o2, none⟩) 2 (c - 16)) W) ∧ Aside0 (Kd.C (Kd.int .u8) w (some ⟨p2, o2, none⟩) 2 [a, b]) ∧
    (∀ o, (w.alloc o).cell? ⟨p2, o2, none⟩ = some (.int .u8 a)) ∧ (∀ o, (w.alloc o).cell? ⟨p2, o2 + 1, none⟩ = some (.int .u8 b))) ∧
  (∀ o, (w.alloc o).cell? ⟨p1, o1 + 18, none⟩ = some (.int .u8 k)) ∧ Aside0 (Kd.C (Kd.int .u8) w (some ⟨p1, o1, none⟩) l.length l) ∧
  (∀ W : World, (Instr.slice 23 (.slice (some ⟨p1, o1, none⟩) l.length c) none (some (.int .i64 16)) none).run Try.prog W = .ok (.slice (some ⟨p1, o1, none⟩) 16 c) W) ∧ Aside0 (Kd.C (Kd.int .u8) w (some ⟨p1, o1, none⟩) 16 (l.take 16)) ∧
  Aside0 (((strOfNums (l.take 16)).toList == (strOfNums ones16).toList) = q)
theorem sz5 : (Try.prog.info? 5).map (·.size) = some (Kd.int .u8).sz := by
  obtain ⟨i, hi, hz⟩ := Option.map_eq_some_iff.1 info5
  simp only [Prod.mk.injEq] at hz
  rw [hi, Option.map_some, hz.2.1]
  rfl

set_option maxHeartbeats 4000000 in
theorem split_mark (c : Nat) (l : List Int) (a b k : Int) (p1 o1 : Nat) (w : World) (S : SplitHead c l a b k p1 o1 false w) :
    Calls Try.prog 14 #[.slice (some ⟨p1, o1, none⟩) l.length c] w (SplitPost w (0, [], 0, 1, 1, [])) := by
  obtain ⟨hnc, h1, hl, a0, a1, b0, b1, k0, k1, ⟨p2, o2, hcut2, HC2, x0, x1⟩, x2, HC, hcut3, HC3, HQ⟩ := S
  have hu := Try.underlying36
  have n18 : (18 : Int) < l.length := by omega
  have n19 : ¬ (l.length : Int) < 19 := by omega
  have HB := or_bytes a b a0 a1 b0 b1
  have wa := wrap_i64 a (by omega) (by omega)
  have wb := wrap_i64 b (by omega) (by omega)
  have wk := wrap_i64 k (by omega) (by omega)
  have wc := wrap_i64 (a * 256) (by omega) (by omega)
  go_enter Try.func14, Try.ntmps14
  go_wp2
  go_quiet (fail)
  clear HB wa wb wk wc
  go_wp2
  go_region_with (first | (go_at_call 18; refine (marker_any w _ (by simpa using pw_below_drewN (below_alloc (Below.refl _ _) _) _)).mono ?_; rintro e w2 ⟨A3, c3, rfl, hm2, hb2, hb3⟩; have HM2 := Aside0.mk hm2; have HB2 := Aside0.mk hb2; have HK2 := Aside0.mk (blk_below (blk_drew (blk_drewN (blk_new _ _) _)) hb3); clear hm2 hb2 hb3) | (go_at_call 23; refine (equal_any _ _ _ _ _ _ (l.take 16) ones16 _ (Kd.C_below HC3.out HB2.out) HM2.out).mono ?_; rintro e w3 ⟨rfl, ⟨nd, rfl⟩⟩; rw [HQ.out]))
  all_goals go_wp2_with (go_at_call 24; refine (note_any _ none 0 0 [] _ (Kd.C_nil _ _) (by omega)).mono ?_; rintro e w4 ⟨v4, rfl, hr4, hb4⟩; obtain ⟨A4, n4, c4, rfl⟩ := R_form hr4; have HK4 := Aside0.mk (blk_below (blk_drewN HK2.out _) hb4); have hcell0 := blk_cell HK4.out 0; have hcell1 := blk_cell HK4.out 1; have hcell2 := blk_cell HK4.out 2; have hfz := blk_frozen HK4.out; simp at hcell0 hcell1 hcell2; have HR4 := Aside0.mk hr4; have HB4 := Aside0.mk (below_step (pw_below_drewN HB2.out _) hb4); clear hr4 hb4)
  all_goals
    refine bodyPost_ret (results_list (rs := [.tmp 2, .tmp 3, .tmp 4, .cell 5 36]) rfl (by simp) (.tmp (.tmp (.tmp (.cell w.heap.size 36 #[.int .i64 1, .int .i64 1, .slice A4 n4 c4] (0, 0) _ rfl (by simpa using blk_set (blk_set (blk_set HK4.out 0 (.int .i64 1)) 1 (.int .i64 1)) 2 (.slice A4 n4 c4)) hu rfl (by kernel_rfl) .nil))))) rfl ?_
    have r1 := Kd.R_set HR4.out HK4.out (by decide) 0 (.int .i64 1)
    have r2 := Kd.R_set r1 (blk_set HK4.out 0 _) (by decide) 1 (.int .i64 1)
    have r3 := Kd.R_set r2 (blk_set (blk_set HK4.out 0 _) 1 _) (by decide) 2 (.slice A4 n4 c4)
    exact ⟨_, _, rfl, Kd.R_nil _ _ _ _ _, Kd.R_lower r3 (below_size (pw_below_drewN HB2.out _)), below_set (below_set (below_set HB4.out (Nat.le_refl _)) (Nat.le_refl _)) (Nat.le_refl _)⟩

set_option maxHeartbeats 4000000 in
theorem split_less (c : Nat) (l : List Int) (a b k : Int) (p1 o1 : Nat) (w : World) (S : SplitHead c l a b k p1 o1 true w) (c2 : a * 256 + b < 19) :
    Calls Try.prog 14 #[.slice (some ⟨p1, o1, none⟩) l.length c] w (SplitPost w (0, [], 0, 1, 2, [a, b])) := by
  obtain ⟨hnc, h1, hl, a0, a1, b0, b1, k0, k1, ⟨p2, o2, hcut2, HC2, x0, x1⟩, x2, HC, hcut3, HC3, HQ⟩ := S
  have hu := Try.underlying36
  have n18 : (18 : Int) < l.length := by omega
  have n19 : ¬ (l.length : Int) < 19 := by omega
  have HB := or_bytes a b a0 a1 b0 b1
  have wa := wrap_i64 a (by omega) (by omega)
  have wb := wrap_i64 b (by omega) (by omega)
  have wk := wrap_i64 k (by omega) (by omega)
  have wc := wrap_i64 (a * 256) (by omega) (by omega)
  go_enter Try.func14, Try.ntmps14
  go_wp2
  go_quiet (fail)
  clear HB wa wb wk wc
  go_wp2
  go_region_with (first | (go_at_call 18; refine (marker_any w _ (by simpa using pw_below_drewN (below_alloc (Below.refl _ _) _) _)).mono ?_; rintro e w2 ⟨A3, c3, rfl, hm2, hb2, hb3⟩; have HM2 := Aside0.mk hm2; have HB2 := Aside0.mk hb2; have HK2 := Aside0.mk (blk_below (blk_drew (blk_drewN (blk_new _ _) _)) hb3); clear hm2 hb2 hb3) | (go_at_call 23; refine (equal_any _ _ _ _ _ _ (l.take 16) ones16 _ (Kd.C_below HC3.out HB2.out) HM2.out).mono ?_; rintro e w3 ⟨rfl, ⟨nd, rfl⟩⟩; rw [HQ.out]))
  all_goals go_wp2_with (go_at_call 24; refine (note_any _ (some ⟨p2, o2, none⟩) 2 (c - 16) [a, b] _ (Kd.C_drewN (Kd.C_below HC2.out HB2.out) _) (by omega)).mono ?_; rintro e w4 ⟨v4, rfl, hr4, hb4⟩; obtain ⟨A4, n4, c4, rfl⟩ := R_form hr4; have HK4 := Aside0.mk (blk_below (blk_drewN HK2.out _) hb4); have hcell0 := blk_cell HK4.out 0; have hcell1 := blk_cell HK4.out 1; have hcell2 := blk_cell HK4.out 2; have hfz := blk_frozen HK4.out; simp at hcell0 hcell1 hcell2; have HR4 := Aside0.mk hr4; have HB4 := Aside0.mk (below_step (pw_below_drewN HB2.out _) hb4); clear hr4 hb4)
  all_goals
    refine bodyPost_ret (results_list (rs := [.tmp 2, .tmp 3, .tmp 4, .cell 5 36]) rfl (by simp) (.tmp (.tmp (.tmp (.cell w.heap.size 36 #[.int .i64 1, .int .i64 2, .slice A4 n4 c4] (0, 0) _ rfl (by simpa using blk_set (blk_set (blk_set HK4.out 0 (.int .i64 1)) 1 (.int .i64 2)) 2 (.slice A4 n4 c4)) hu rfl (by kernel_rfl) .nil))))) rfl ?_
    have r1 := Kd.R_set HR4.out HK4.out (by decide) 0 (.int .i64 1)
    have r2 := Kd.R_set r1 (blk_set HK4.out 0 _) (by decide) 1 (.int .i64 2)
    have r3 := Kd.R_set r2 (blk_set (blk_set HK4.out 0 _) 1 _) (by decide) 2 (.slice A4 n4 c4)
    exact ⟨_, _, rfl, Kd.R_nil _ _ _ _ _, Kd.R_lower r3 (below_size (pw_below_drewN HB2.out _)), below_set (below_set (below_set HB4.out (Nat.le_refl _)) (Nat.le_refl _)) (Nat.le_refl _)⟩

set_option maxHeartbeats 4000000 in
theorem split_more (c : Nat) (l : List Int) (a b k : Int) (p1 o1 : Nat) (w : World) (S : SplitHead c l a b k p1 o1 true w) (c2 : ¬ a * 256 + b < 19) (c3 : 4096 < a * 256 + b) :
    Calls Try.prog 14 #[.slice (some ⟨p1, o1, none⟩) l.length c] w (SplitPost w (0, [], 0, 1, 2, [a, b])) := by
  obtain ⟨hnc, h1, hl, a0, a1, b0, b1, k0, k1, ⟨p2, o2, hcut2, HC2, x0, x1⟩, x2, HC, hcut3, HC3, HQ⟩ := S
  have hu := Try.underlying36
  have n18 : (18 : Int) < l.length := by omega
  have n19 : ¬ (l.length : Int) < 19 := by omega
  have HB := or_bytes a b a0 a1 b0 b1
  have wa := wrap_i64 a (by omega) (by omega)
  have wb := wrap_i64 b (by omega) (by omega)
  have wk := wrap_i64 k (by omega) (by omega)
  have wc := wrap_i64 (a * 256) (by omega) (by omega)
  go_enter Try.func14, Try.ntmps14
  go_wp2
  go_quiet (fail)
  clear HB wa wb wk wc
  go_wp2
  go_region_with (first | (go_at_call 18; refine (marker_any w _ (by simpa using pw_below_drewN (below_alloc (Below.refl _ _) _) _)).mono ?_; rintro e w2 ⟨A3, c3, rfl, hm2, hb2, hb3⟩; have HM2 := Aside0.mk hm2; have HB2 := Aside0.mk hb2; have HK2 := Aside0.mk (blk_below (blk_drew (blk_drewN (blk_new _ _) _)) hb3); clear hm2 hb2 hb3) | (go_at_call 23; refine (equal_any _ _ _ _ _ _ (l.take 16) ones16 _ (Kd.C_below HC3.out HB2.out) HM2.out).mono ?_; rintro e w3 ⟨rfl, ⟨nd, rfl⟩⟩; rw [HQ.out]))
  all_goals go_wp2_with (go_at_call 24; refine (note_any _ (some ⟨p2, o2, none⟩) 2 (c - 16) [a, b] _ (Kd.C_drewN (Kd.C_below HC2.out HB2.out) _) (by omega)).mono ?_; rintro e w4 ⟨v4, rfl, hr4, hb4⟩; obtain ⟨A4, n4, c4, rfl⟩ := R_form hr4; have HK4 := Aside0.mk (blk_below (blk_drewN HK2.out _) hb4); have hcell0 := blk_cell HK4.out 0; have hcell1 := blk_cell HK4.out 1; have hcell2 := blk_cell HK4.out 2; have hfz := blk_frozen HK4.out; simp at hcell0 hcell1 hcell2; have HR4 := Aside0.mk hr4; have HB4 := Aside0.mk (below_step (pw_below_drewN HB2.out _) hb4); clear hr4 hb4)
  all_goals
    refine bodyPost_ret (results_list (rs := [.tmp 2, .tmp 3, .tmp 4, .cell 5 36]) rfl (by simp) (.tmp (.tmp (.tmp (.cell w.heap.size 36 #[.int .i64 1, .int .i64 2, .slice A4 n4 c4] (0, 0) _ rfl (by simpa using blk_set (blk_set (blk_set HK4.out 0 (.int .i64 1)) 1 (.int .i64 2)) 2 (.slice A4 n4 c4)) hu rfl (by kernel_rfl) .nil))))) rfl ?_
    have r1 := Kd.R_set HR4.out HK4.out (by decide) 0 (.int .i64 1)
    have r2 := Kd.R_set r1 (blk_set HK4.out 0 _) (by decide) 1 (.int .i64 2)
    have r3 := Kd.R_set r2 (blk_set (blk_set HK4.out 0 _) 1 _) (by decide) 2 (.slice A4 n4 c4)
    exact ⟨_, _, rfl, Kd.R_nil _ _ _ _ _, Kd.R_lower r3 (below_size (pw_below_drewN HB2.out _)), below_set (below_set (below_set HB4.out (Nat.le_refl _)) (Nat.le_refl _)) (Nat.le_refl _)⟩

set_option maxHeartbeats 4000000 in
theorem split_kless (c : Nat) (l : List Int) (a b k : Int) (p1 o1 : Nat) (w : World) (S : SplitHead c l a b k p1 o1 true w) (c2 : ¬ a * 256 + b < 19) (c3 : ¬ 4096 < a * 256 + b) (c4 : k < 1) (hk : (l.drop 18).take 1 = [k]) :
    Calls Try.prog 14 #[.slice (some ⟨p1, o1, none⟩) l.length c] w (SplitPost w (0, [], 0, 1, 3, [k])) := by
  obtain ⟨hnc, h1, hl, a0, a1, b0, b1, k0, k1, ⟨p2, o2, hcut2, HC2, x0, x1⟩, x2, HC, hcut3, HC3, HQ⟩ := S
  have hu := Try.underlying36
  have n18 : (18 : Int) < l.length := by omega
  have n19 : ¬ (l.length : Int) < 19 := by omega
  have HB := or_bytes a b a0 a1 b0 b1
  have wa := wrap_i64 a (by omega) (by omega)
  have wb := wrap_i64 b (by omega) (by omega)
  have wk := wrap_i64 k (by omega) (by omega)
  have wc := wrap_i64 (a * 256) (by omega) (by omega)
  obtain ⟨A5, hcut5, hC5⟩ := cutLH (P := Try.prog) (d := Kd.int .u8) 23 5 Try.underlying23 sz5 (some ⟨p1, o1, none⟩) l.length c l 18 19 18 1 rfl rfl (by omega) hnc
  have HC5 := Aside0.mk (hC5 w HC.out)
  rw [hk] at HC5
  clear hC5
  go_enter Try.func14, Try.ntmps14
  go_wp2
  go_quiet (fail)
  clear HB wa wb wk wc
  go_wp2
  go_region_with (first | (go_at_call 18; refine (marker_any w _ (by simpa using pw_below_drewN (below_alloc (Below.refl _ _) _) _)).mono ?_; rintro e w2 ⟨A3, c3, rfl, hm2, hb2, hb3⟩; have HM2 := Aside0.mk hm2; have HB2 := Aside0.mk hb2; have HK2 := Aside0.mk (blk_below (blk_drew (blk_drewN (blk_new _ _) _)) hb3); clear hm2 hb2 hb3) | (go_at_call 23; refine (equal_any _ _ _ _ _ _ (l.take 16) ones16 _ (Kd.C_below HC3.out HB2.out) HM2.out).mono ?_; rintro e w3 ⟨rfl, ⟨nd, rfl⟩⟩; rw [HQ.out]))
  all_goals go_wp2_with (go_at_call 24; refine (note_any _ A5 1 (c - 18) [k] _ (Kd.C_drewN (Kd.C_below HC5.out HB2.out) _) (by omega)).mono ?_; rintro e w4 ⟨v4, rfl, hr4, hb4⟩; obtain ⟨A4, n4, c4, rfl⟩ := R_form hr4; have HK4 := Aside0.mk (blk_below (blk_drewN HK2.out _) hb4); have hcell0 := blk_cell HK4.out 0; have hcell1 := blk_cell HK4.out 1; have hcell2 := blk_cell HK4.out 2; have hfz := blk_frozen HK4.out; simp at hcell0 hcell1 hcell2; have HR4 := Aside0.mk hr4; have HB4 := Aside0.mk (below_step (pw_below_drewN HB2.out _) hb4); clear hr4 hb4)
  all_goals
    refine bodyPost_ret (results_list (rs := [.tmp 2, .tmp 3, .tmp 4, .cell 5 36]) rfl (by simp) (.tmp (.tmp (.tmp (.cell w.heap.size 36 #[.int .i64 1, .int .i64 3, .slice A4 n4 c4] (0, 0) _ rfl (by simpa using blk_set (blk_set (blk_set HK4.out 0 (.int .i64 1)) 1 (.int .i64 3)) 2 (.slice A4 n4 c4)) hu rfl (by kernel_rfl) .nil))))) rfl ?_
    have r1 := Kd.R_set HR4.out HK4.out (by decide) 0 (.int .i64 1)
    have r2 := Kd.R_set r1 (blk_set HK4.out 0 _) (by decide) 1 (.int .i64 3)
    have r3 := Kd.R_set r2 (blk_set (blk_set HK4.out 0 _) 1 _) (by decide) 2 (.slice A4 n4 c4)
    exact ⟨_, _, rfl, Kd.R_nil _ _ _ _ _, Kd.R_lower r3 (below_size (pw_below_drewN HB2.out _)), below_set (below_set (below_set HB4.out (Nat.le_refl _)) (Nat.le_refl _)) (Nat.le_refl _)⟩

set_option maxHeartbeats 4000000 in
theorem split_kmore (c : Nat) (l : List Int) (a b k : Int) (p1 o1 : Nat) (w : World) (S : SplitHead c l a b k p1 o1 true w) (c2 : ¬ a * 256 + b < 19) (c3 : ¬ 4096 < a * 256 + b) (c4 : ¬ k < 1) (c5 : 4 < k) (hk : (l.drop 18).take 1 = [k]) :
    Calls Try.prog 14 #[.slice (some ⟨p1, o1, none⟩) l.length c] w (SplitPost w (0, [], 0, 1, 3, [k])) := by
  obtain ⟨hnc, h1, hl, a0, a1, b0, b1, k0, k1, ⟨p2, o2, hcut2, HC2, x0, x1⟩, x2, HC, hcut3, HC3, HQ⟩ := S
  have hu := Try.underlying36
  have n18 : (18 : Int) < l.length := by omega
  have n19 : ¬ (l.length : Int) < 19 := by omega
  have HB := or_bytes a b a0 a1 b0 b1
  have wa := wrap_i64 a (by omega) (by omega)
  have wb := wrap_i64 b (by omega) (by omega)
  have wk := wrap_i64 k (by omega) (by omega)
  have wc := wrap_i64 (a * 256) (by omega) (by omega)
  obtain ⟨A5, hcut5, hC5⟩ := cutLH (P := Try.prog) (d := Kd.int .u8) 23 5 Try.underlying23 sz5 (some ⟨p1, o1, none⟩) l.length c l 18 19 18 1 rfl rfl (by omega) hnc
  have HC5 := Aside0.mk (hC5 w HC.out)
  rw [hk] at HC5
  clear hC5
  go_enter Try.func14, Try.ntmps14
  go_wp2
  go_quiet (fail)
  clear HB wa wb wk wc
  go_wp2
  go_region_with (first | (go_at_call 18; refine (marker_any w _ (by simpa using pw_below_drewN (below_alloc (Below.refl _ _) _) _)).mono ?_; rintro e w2 ⟨A3, c3, rfl, hm2, hb2, hb3⟩; have HM2 := Aside0.mk hm2; have HB2 := Aside0.mk hb2; have HK2 := Aside0.mk (blk_below (blk_drew (blk_drewN (blk_new _ _) _)) hb3); clear hm2 hb2 hb3) | (go_at_call 23; refine (equal_any _ _ _ _ _ _ (l.take 16) ones16 _ (Kd.C_below HC3.out HB2.out) HM2.out).mono ?_; rintro e w3 ⟨rfl, ⟨nd, rfl⟩⟩; rw [HQ.out]))
  all_goals go_wp2_with (go_at_call 24; refine (note_any _ A5 1 (c - 18) [k] _ (Kd.C_drewN (Kd.C_below HC5.out HB2.out) _) (by omega)).mono ?_; rintro e w4 ⟨v4, rfl, hr4, hb4⟩; obtain ⟨A4, n4, c4, rfl⟩ := R_form hr4; have HK4 := Aside0.mk (blk_below (blk_drewN HK2.out _) hb4); have hcell0 := blk_cell HK4.out 0; have hcell1 := blk_cell HK4.out 1; have hcell2 := blk_cell HK4.out 2; have hfz := blk_frozen HK4.out; simp at hcell0 hcell1 hcell2; have HR4 := Aside0.mk hr4; have HB4 := Aside0.mk (below_step (pw_below_drewN HB2.out _) hb4); clear hr4 hb4)
  all_goals
    refine bodyPost_ret (results_list (rs := [.tmp 2, .tmp 3, .tmp 4, .cell 5 36]) rfl (by simp) (.tmp (.tmp (.tmp (.cell w.heap.size 36 #[.int .i64 1, .int .i64 3, .slice A4 n4 c4] (0, 0) _ rfl (by simpa using blk_set (blk_set (blk_set HK4.out 0 (.int .i64 1)) 1 (.int .i64 3)) 2 (.slice A4 n4 c4)) hu rfl (by kernel_rfl) .nil))))) rfl ?_
    have r1 := Kd.R_set HR4.out HK4.out (by decide) 0 (.int .i64 1)
    have r2 := Kd.R_set r1 (blk_set HK4.out 0 _) (by decide) 1 (.int .i64 3)
    have r3 := Kd.R_set r2 (blk_set (blk_set HK4.out 0 _) 1 _) (by decide) 2 (.slice A4 n4 c4)
    exact ⟨_, _, rfl, Kd.R_nil _ _ _ _ _, Kd.R_lower r3 (below_size (pw_below_drewN HB2.out _)), below_set (below_set (below_set HB4.out (Nat.le_refl _)) (Nat.le_refl _)) (Nat.le_refl _)⟩

set_option maxHeartbeats 4000000 in
theorem split_unfit (c : Nat) (l : List Int) (a b k : Int) (p1 o1 : Nat) (w : World) (S : SplitHead c l a b k p1 o1 true w) (c2 : ¬ a * 256 + b < 19) (c3 : ¬ 4096 < a * 256 + b) (c4 : ¬ k < 1) (c5 : ¬ 4 < k) (HF : Aside0 ((if k = 1 then decide (29 ≤ a * 256 + b) else if k = 2 then decide (23 ≤ a * 256 + b) else if k = 3 then decide (21 ≤ a * 256 + b) else (a * 256 + b == 19)) = false)) :
    Calls Try.prog 14 #[.slice (some ⟨p1, o1, none⟩) l.length c] w (SplitPost w (0, [], 0, 1, 2, [a, b])) := by
  obtain ⟨hnc, h1, hl, a0, a1, b0, b1, k0, k1, ⟨p2, o2, hcut2, HC2, x0, x1⟩, x2, HC, hcut3, HC3, HQ⟩ := S
  have hu := Try.underlying36
  have n18 : (18 : Int) < l.length := by omega
  have n19 : ¬ (l.length : Int) < 19 := by omega
  have HB := or_bytes a b a0 a1 b0 b1
  have wa := wrap_i64 a (by omega) (by omega)
  have wb := wrap_i64 b (by omega) (by omega)
  have wk := wrap_i64 k (by omega) (by omega)
  have wc := wrap_i64 (a * 256) (by omega) (by omega)
  go_enter Try.func14, Try.ntmps14
  go_wp2
  go_quiet (fail)
  clear HB wa wb wk wc
  go_wp2
  go_region_with (first | (go_at_call 18; refine (marker_any w _ (by simpa using pw_below_drewN (below_alloc (Below.refl _ _) _) _)).mono ?_; rintro e w2 ⟨A3, c3, rfl, hm2, hb2, hb3⟩; have HM2 := Aside0.mk hm2; have HB2 := Aside0.mk hb2; have HK2 := Aside0.mk (blk_below (blk_drew (blk_drewN (blk_new _ _) _)) hb3); clear hm2 hb2 hb3) | (go_at_call 23; refine (equal_any _ _ _ _ _ _ (l.take 16) ones16 _ (Kd.C_below HC3.out HB2.out) HM2.out).mono ?_; rintro e w3 ⟨rfl, ⟨nd, rfl⟩⟩; rw [HQ.out]))
  all_goals go_wp2_with (first | (go_at_call 25; refine (fits_any k (a * 256 + b) _).mono ?_; rintro e wf ⟨rfl, rfl⟩; rw [HF.out]) | (go_at_call 24; refine (note_any _ (some ⟨p2, o2, none⟩) 2 (c - 16) [a, b] _ (Kd.C_drewN (Kd.C_below HC2.out HB2.out) _) (by omega)).mono ?_; rintro e w4 ⟨v4, rfl, hr4, hb4⟩; obtain ⟨A4, n4, c4, rfl⟩ := R_form hr4; have HK4 := Aside0.mk (blk_below (blk_drewN HK2.out _) hb4); have hcell0 := blk_cell HK4.out 0; have hcell1 := blk_cell HK4.out 1; have hcell2 := blk_cell HK4.out 2; have hfz := blk_frozen HK4.out; simp at hcell0 hcell1 hcell2; have HR4 := Aside0.mk hr4; have HB4 := Aside0.mk (below_step (pw_below_drewN HB2.out _) hb4); clear hr4 hb4))
  all_goals
    refine bodyPost_ret (results_list (rs := [.tmp 2, .tmp 3, .tmp 4, .cell 5 36]) rfl (by simp) (.tmp (.tmp (.tmp (.cell w.heap.size 36 #[.int .i64 1, .int .i64 2, .slice A4 n4 c4] (0, 0) _ rfl (by simpa using blk_set (blk_set (blk_set HK4.out 0 (.int .i64 1)) 1 (.int .i64 2)) 2 (.slice A4 n4 c4)) hu rfl (by kernel_rfl) .nil))))) rfl ?_
    have r1 := Kd.R_set HR4.out HK4.out (by decide) 0 (.int .i64 1)
    have r2 := Kd.R_set r1 (blk_set HK4.out 0 _) (by decide) 1 (.int .i64 2)
    have r3 := Kd.R_set r2 (blk_set (blk_set HK4.out 0 _) 1 _) (by decide) 2 (.slice A4 n4 c4)
    exact ⟨_, _, rfl, Kd.R_nil _ _ _ _ _, Kd.R_lower r3 (below_size (pw_below_drewN HB2.out _)), below_set (below_set (below_set HB4.out (Nat.le_refl _)) (Nat.le_refl _)) (Nat.le_refl _)⟩

set_option maxHeartbeats 4000000 in
theorem split_notyet (c : Nat) (l : List Int) (a b k : Int) (p1 o1 : Nat) (w : World) (S : SplitHead c l a b k p1 o1 true w) (c2 : ¬ a * 256 + b < 19) (c3 : ¬ 4096 < a * 256 + b) (c4 : ¬ k < 1) (c5 : ¬ 4 < k) (HF : Aside0 ((if k = 1 then decide (29 ≤ a * 256 + b) else if k = 2 then decide (23 ≤ a * 256 + b) else if k = 3 then decide (21 ≤ a * 256 + b) else (a * 256 + b == 19)) = true)) (c6 : (l.length : Int) < a * 256 + b) :
    Calls Try.prog 14 #[.slice (some ⟨p1, o1, none⟩) l.length c] w (SplitPost w (0, [], 0, 0, 0, [])) := by
  obtain ⟨hnc, h1, hl, a0, a1, b0, b1, k0, k1, ⟨p2, o2, hcut2, HC2, x0, x1⟩, x2, HC, hcut3, HC3, HQ⟩ := S
  have hu := Try.underlying36
  have n18 : (18 : Int) < l.length := by omega
  have n19 : ¬ (l.length : Int) < 19 := by omega
  have HB := or_bytes a b a0 a1 b0 b1
  have wa := wrap_i64 a (by omega) (by omega)
  have wb := wrap_i64 b (by omega) (by omega)
  have wk := wrap_i64 k (by omega) (by omega)
  have wc := wrap_i64 (a * 256) (by omega) (by omega)
  go_enter Try.func14, Try.ntmps14
  go_wp2
  go_quiet (fail)
  clear HB wa wb wk wc
  go_wp2
  go_region_with (first | (go_at_call 18; refine (marker_any w _ (by simpa using pw_below_drewN (below_alloc (Below.refl _ _) _) _)).mono ?_; rintro e w2 ⟨A3, c3, rfl, hm2, hb2, hb3⟩; have HM2 := Aside0.mk hm2; have HB2 := Aside0.mk hb2; have HK2 := Aside0.mk (blk_below (blk_drew (blk_drewN (blk_new _ _) _)) hb3); clear hm2 hb2 hb3) | (go_at_call 23; refine (equal_any _ _ _ _ _ _ (l.take 16) ones16 _ (Kd.C_below HC3.out HB2.out) HM2.out).mono ?_; rintro e w3 ⟨rfl, ⟨nd, rfl⟩⟩; rw [HQ.out]))
  all_goals have q0 := blk_cell HK2.out 0
  all_goals have q1 := blk_cell HK2.out 1
  all_goals have q2 := blk_cell HK2.out 2
  all_goals have qf := blk_frozen HK2.out
  all_goals simp at q0 q1 q2
  all_goals go_wp2_with (go_at_call 25; refine (fits_any k (a * 256 + b) _).mono ?_; rintro e wf ⟨rfl, rfl⟩; rw [HF.out])
  all_goals
    refine bodyPost_ret (results_list (rs := [.tmp 2, .tmp 3, .tmp 4, .cell 5 36]) rfl (by simp) (.tmp (.tmp (.tmp (.cell w.heap.size 36 #[.int .i64 0, .int .i64 0, .slice none 0 0] (0, 0) _ rfl (by simpa using blk_set (blk_set (blk_set (blk_drewN HK2.out nd) 0 (.int .i64 0)) 1 (.int .i64 0)) 2 (.slice none 0 0)) hu rfl (by kernel_rfl) .nil))))) rfl ?_
    have r1 := pw_below_drewN HB2.out nd
    exact ⟨_, _, rfl, Kd.R_nil _ _ _ _ _, Kd.R_nil _ _ _ _ _, below_set (below_set (below_set r1 (Nat.le_refl _)) (Nat.le_refl _)) (Nat.le_refl _)⟩

set_option maxHeartbeats 4000000 in
theorem split_whole (c : Nat) (l : List Int) (a b k : Int) (p1 o1 : Nat) (w : World) (S : SplitHead c l a b k p1 o1 true w) (c2 : ¬ a * 256 + b < 19) (c3 : ¬ 4096 < a * 256 + b) (c4 : ¬ k < 1) (c5 : ¬ 4 < k) (HF : Aside0 ((if k = 1 then decide (29 ≤ a * 256 + b) else if k = 2 then decide (23 ≤ a * 256 + b) else if k = 3 then decide (21 ≤ a * 256 + b) else (a * 256 + b == 19)) = true)) (c6 : ¬ (l.length : Int) < a * 256 + b) :
    Calls Try.prog 14 #[.slice (some ⟨p1, o1, none⟩) l.length c] w (SplitPost w (k, (l.drop 19).take (a * 256 + b - 19).toNat, a * 256 + b, 0, 0, [])) := by
  obtain ⟨hnc, h1, hl, a0, a1, b0, b1, k0, k1, ⟨p2, o2, hcut2, HC2, x0, x1⟩, x2, HC, hcut3, HC3, HQ⟩ := S
  have hu := Try.underlying36
  have n18 : (18 : Int) < l.length := by omega
  have n19 : ¬ (l.length : Int) < 19 := by omega
  have HB := or_bytes a b a0 a1 b0 b1
  have wa := wrap_i64 a (by omega) (by omega)
  have wb := wrap_i64 b (by omega) (by omega)
  have wk := wrap_i64 k (by omega) (by omega)
  have wc := wrap_i64 (a * 256) (by omega) (by omega)
  obtain ⟨m, hm⟩ : ∃ m : Nat, a * 256 + b = ((19 + m : Nat) : Int) := ⟨(a * 256 + b - 19).toNat, by omega⟩
  obtain ⟨A6, hcut6, hC6⟩ := cutLH (P := Try.prog) (d := Kd.int .u8) 23 5 Try.underlying23 sz5 (some ⟨p1, o1, none⟩) l.length c l 19 (a * 256 + b) 19 m rfl hm (by omega) hnc
  have HC6 := Aside0.mk (hC6 w HC.out)
  have hm9 : (a * 256 + b - 19).toNat = m := by omega
  have HM9 := Aside0.mk hm9
  have hmb : m ≤ 4077 := by omega
  clear hC6 hm hm9
  go_enter Try.func14, Try.ntmps14
  go_wp2
  go_quiet (fail)
  clear HB wa wb wk wc
  go_wp2
  go_region_with (first | (go_at_call 18; refine (marker_any w _ (by simpa using pw_below_drewN (below_alloc (Below.refl _ _) _) _)).mono ?_; rintro e w2 ⟨A3, c3, rfl, hm2, hb2, hb3⟩; have HM2 := Aside0.mk hm2; have HB2 := Aside0.mk hb2; have HK2 := Aside0.mk (blk_below (blk_drew (blk_drewN (blk_new _ _) _)) hb3); clear hm2 hb2 hb3) | (go_at_call 23; refine (equal_any _ _ _ _ _ _ (l.take 16) ones16 _ (Kd.C_below HC3.out HB2.out) HM2.out).mono ?_; rintro e w3 ⟨rfl, ⟨nd, rfl⟩⟩; rw [HQ.out]))
  all_goals go_wp2_with (first | (go_at_call 25; refine (fits_any k (a * 256 + b) _).mono ?_; rintro e wf ⟨rfl, rfl⟩; rw [HF.out]) | (go_at_call 26; refine (clone_any A6 m (c - 19) _ _ (Kd.C_drewN (Kd.C_below HC6.out HB2.out) _) (by omega)).mono ?_; rintro e w4 ⟨v4, rfl, hr4, hb4⟩; obtain ⟨A4, n4, c4, rfl⟩ := R_form hr4; have HK4 := Aside0.mk (blk_below (blk_drewN HK2.out _) hb4); have hcell0 := blk_cell HK4.out 0; have hcell1 := blk_cell HK4.out 1; have hcell2 := blk_cell HK4.out 2; have hfz := blk_frozen HK4.out; simp at hcell0 hcell1 hcell2; have HR4 := Aside0.mk hr4; have HB4 := Aside0.mk (below_step (pw_below_drewN HB2.out _) hb4); clear hr4 hb4))
  all_goals
    refine bodyPost_ret (results_list (rs := [.tmp 2, .tmp 3, .tmp 4, .cell 5 36]) rfl (by simp) (.tmp (.tmp (.tmp (.cell w.heap.size 36 #[.int .i64 0, .int .i64 0, .slice none 0 0] (0, 0) _ rfl (by simpa using blk_set (blk_set (blk_set HK4.out 0 (.int .i64 0)) 1 (.int .i64 0)) 2 (.slice none 0 0)) hu rfl (by kernel_rfl) .nil))))) rfl ?_
    have r1 := Kd.R_set HR4.out HK4.out (by decide) 0 (.int .i64 0)
    have r2 := Kd.R_set r1 (blk_set HK4.out 0 _) (by decide) 1 (.int .i64 0)
    have r3 := Kd.R_set r2 (blk_set (blk_set HK4.out 0 _) 1 _) (by decide) 2 (.slice none 0 0)
    rw [HM9.out]
    exact ⟨_, _, rfl, Kd.R_lower r3 (below_size (pw_below_drewN HB2.out _)), Kd.R_nil _ _ _ _ _, below_set (below_set (below_set HB4.out (Nat.le_refl _)) (Nat.le_refl _)) (Nat.le_refl _)⟩

theorem split_any (A : Option Addr) (n c : Nat) (l : List Int) (w : World) (hc : Kd.C (Kd.int .u8) w A n l) (hnc : n ≤ c) (hbyte : ∀ x ∈ l, 0 ≤ x ∧ x ≤ 255) (hl : n ≤ 140737488355328) :
    Calls Try.prog 14 #[.slice A n c] w (SplitPost w (splitF l)) := by
  obtain rfl : l.length = n := hc.1
  by_cases h1 : l.length < 19
  · have e1 : splitF l = (0, [], 0, 0, 0, []) := by simp [splitF, h1]
    rw [e1]
    exact split_short A c l w h1
  have hb := fun j (hj : j < l.length) => hbyte _ (List.getElem_mem hj)
  obtain ⟨a, ha⟩ : ∃ a, l.getD 16 0 = a := ⟨_, rfl⟩
  obtain ⟨b, hbb⟩ : ∃ b, l.getD 17 0 = b := ⟨_, rfl⟩
  obtain ⟨k, hk⟩ : ∃ k, l.getD 18 0 = k := ⟨_, rfl⟩
  have a0 := hb 16 (by omega)
  have b0 := hb 17 (by omega)
  have k0 := hb 18 (by omega)
  rw [← getD_at l 16 0 (by omega), ha] at a0
  rw [← getD_at l 17 0 (by omega), hbb] at b0
  rw [← getD_at l 18 0 (by omega), hk] at k0
  have e2 : (l.drop 16).take 2 = [a, b] := by
    rw [List.drop_eq_getElem_cons (by omega), List.drop_eq_getElem_cons (by omega), ← getD_at l 16 0 (by omega), ← getD_at l 17 0 (by omega), ha, hbb]
    rfl
  have e3 : (l.drop 18).take 1 = [k] := by
    rw [List.drop_eq_getElem_cons (by omega), ← getD_at l 18 0 (by omega), hk]
    rfl
  obtain ⟨p1, o1, rfl, hcell⟩ := intCells2 hc (by omega)
  have S : ∀ q, decide (l.take 16 = ones16) = q → SplitHead c l a b k p1 o1 q w := by
    intro q hq
    obtain ⟨A2, hcut2, hC2⟩ := cutLH (P := Try.prog) (d := Kd.int .u8) 23 5 Try.underlying23 sz5 (some ⟨p1, o1, none⟩) l.length c l 16 18 16 2 rfl rfl (by omega) hnc
    have hC2 := hC2 w hc
    rw [e2] at hC2
    obtain ⟨p2, o2, rfl, hcell2⟩ := intCells2 hC2 (by omega)
    obtain ⟨hcut3, hC3⟩ := cutH (P := Try.prog) (d := Kd.int .u8) 23 5 Try.underlying23 sz5 (some ⟨p1, o1, none⟩) l.length c l 16 16 rfl (by omega) hnc
    refine ⟨hnc, by omega, hl, a0.1, a0.2, b0.1, b0.2, k0.1, k0.2, ⟨p2, o2, hcut2, ⟨hC2⟩, fun o => ?_, fun o => ?_⟩, fun o => ?_, ⟨hc⟩, hcut3, ⟨hC3 w hc⟩, ⟨?_⟩⟩
    · exact pw_cell_below (below_alloc (Below.refl _ _) o) (hcell2 0 (by omega))
    · exact pw_cell_below (below_alloc (Below.refl _ _) o) (hcell2 1 (by omega))
    · exact pw_cell_below (below_alloc (Below.refl _ _) o) (by rw [hcell 18 (by omega), hk])
    · rw [strOf_eq (l.take 16) ones16 (fun x hx => hbyte x (List.mem_of_mem_take hx)) (fun x hx => by rw [List.eq_of_mem_replicate hx]; omega)]
      exact hq
  have HSplit : splitF l = splitG l a b k := by unfold splitF splitG; rw [if_neg (by omega), ha, hbb, hk]
  rw [HSplit]
  unfold splitG
  by_cases c1 : l.take 16 = ones16
  · have S := S true (decide_eq_true c1)
    rw [if_neg (fun h => h c1)]
    by_cases c2 : a * 256 + b < 19
    · rw [if_pos c2]; exact split_less c l a b k p1 o1 w S c2
    rw [if_neg c2]
    by_cases c3 : 4096 < a * 256 + b
    · rw [if_pos c3]; exact split_more c l a b k p1 o1 w S c2 c3
    rw [if_neg c3]
    by_cases c4 : k < 1
    · rw [if_pos c4]; exact split_kless c l a b k p1 o1 w S c2 c3 c4 e3
    rw [if_neg c4]
    by_cases c5 : 4 < k
    · rw [if_pos c5]; exact split_kmore c l a b k p1 o1 w S c2 c3 c4 c5 e3
    rw [if_neg c5]
    by_cases c7 : (if k = 1 then decide (29 ≤ a * 256 + b) else if k = 2 then decide (23 ≤ a * 256 + b) else if k = 3 then decide (21 ≤ a * 256 + b) else (a * 256 + b == 19)) = false
    · rw [if_pos c7]; exact split_unfit c l a b k p1 o1 w S c2 c3 c4 c5 ⟨c7⟩
    rw [if_neg c7]
    by_cases c6 : (l.length : Int) < a * 256 + b
    · rw [if_pos c6]; exact split_notyet c l a b k p1 o1 w S c2 c3 c4 c5 ⟨(Bool.not_eq_false _).mp c7⟩ c6
    · rw [if_neg c6]; exact split_whole c l a b k p1 o1 w S c2 c3 c4 c5 ⟨(Bool.not_eq_false _).mp c7⟩ c6
  · rw [if_pos c1]
    exact split_mark c l a b k p1 o1 w (S false (decide_eq_false c1))
end Go.Proofs.Ytbjfkonkmgghfaa.Mine
