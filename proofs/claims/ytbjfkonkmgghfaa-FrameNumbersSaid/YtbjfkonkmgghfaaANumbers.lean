/- The walk of the law FrameNumbers. -/
import Derived.Test.YtbjfkonkmgghfaaATells
import Derived.Test.YtbjfkonkmgghfaaWGuard
import Derived.Test.YtbjfkonkmgghfaaWZeros
namespace Go.Proofs.Ytbjfkonkmgghfaa.Mine
open Go.RowKit Go.Proofs.YtbjfkonkmgghfaaW.PrintWords Go.Proofs.YtbjfkonkmgghfaaW.PrintLast Go.Proofs.YtbjfkonkmgghfaaW.PrintMore
set_option linter.unusedVariables false
set_option linter.unusedSimpArgs false

/-- The lengths that the law takes. -/
def lens : List Int := [0, 1, 2, 3, 4, 9, 10, 11, 4076, 4077, 4078]
theorem lens_at (i : Nat) : ∃ m : Nat, lens.getD i 0 = m ∧ m ≤ 4078 := by
  have h : ∀ x ∈ lens, 0 ≤ x ∧ x ≤ 4078 := by decide
  by_cases hi : i < lens.length
  · have := h (lens.getD i 0) (by rw [List.getD_eq_getElem?_getD, List.getElem?_eq_getElem hi]; exact List.getElem_mem hi)
    exact ⟨(lens.getD i 0).toNat, by omega, by omega⟩
  · exact ⟨0, by rw [List.getD_eq_getElem?_getD, List.getElem?_eq_none (by omega)]; rfl, by omega⟩
/-- A whole KEEPALIVE. -/
def whole : List Int := joined 4 []
theorem snoc_bytes {Y : List Int} (h : ∀ x ∈ Y, 0 ≤ x ∧ x ≤ 255) (b : Int) (h0 : 0 ≤ b) (h1 : b ≤ 255) : ∀ x ∈ Y ++ [b], 0 ≤ x ∧ x ≤ 255 := by
  intro x hx
  rcases List.mem_append.1 hx with hx | hx
  · exact h x hx
  · simp at hx
    omega
theorem zeros_bytes {Y : List Int} (h : ∀ x ∈ Y, 0 ≤ x ∧ x ≤ 255) (m : Nat) : ∀ x ∈ Y ++ List.replicate m 0, 0 ≤ x ∧ x ≤ 255 := by
  intro x hx
  rcases List.mem_append.1 hx with hx | hx
  · exact h x hx
  · rw [List.eq_of_mem_replicate hx]
    omega
/-- The bytes that the law sets. -/
def tos : List Int := [0, 1, 5, 16, 18, 19, 20, 255]
theorem tos_at (i : Nat) : 0 ≤ tos.getD i 0 ∧ tos.getD i 0 ≤ 255 := by
  have h : ∀ x ∈ tos, 0 ≤ x ∧ x ≤ 255 := by decide
  by_cases hi : i < tos.length
  · exact h (tos.getD i 0) (by rw [List.getD_eq_getElem?_getD, List.getElem?_eq_getElem hi]; exact List.getElem_mem hi)
  · rw [List.getD_eq_getElem?_getD, List.getElem?_eq_none (by omega)]
    exact ⟨by decide, by decide⟩
theorem whole_set (k : Nat) (t : Int) (h0 : 0 ≤ t) (h1 : t ≤ 255) : ∀ x ∈ whole.set k t, 0 ≤ x ∧ x ≤ 255 := by
  intro x hx
  have h : ∀ x ∈ whole, 0 ≤ x ∧ x ≤ 255 := by decide
  rcases List.mem_or_eq_of_mem_set hx with hx | rfl
  · exact h x hx
  · exact ⟨h0, h1⟩
theorem lit_C {k : IntKind} {e : Nat} (X : World) (g : Nat) (hg : X.heap.size = g) (xs : List Int) (n : Nat) (hn : xs.length = n) (hl : n ≤ 9223372036854775807) : Kd.C (Kd.int k) (X.alloc (.cells (nums k xs).toArray e)) (some ⟨g, 0, none⟩) n xs := by
  subst hg hn
  have h := Kd.R_of_own (enc := fun x => .int k x) (h1 := fun _ => rfl) (ok := fun _ => True) (own_lit X 0 e k xs (Nat.zero_le _) hl) (fun _ _ => trivial)
  obtain ⟨A, c, hv, _, hc⟩ := Kd.R_reads h
  injection hv with hA _ _
  rw [← hA] at hc
  exact hc

set_option maxRecDepth 100000 in
set_option maxHeartbeats 3200000 in
theorem FrameNumbers_walk (w : World) : Calls Try.prog 3 #[] w fun e w' => e = .returned (.bool true) ∧ Below w.heap.size w w' := by
  go_enter Try.func3, Try.ntmps3
  go_wp2
  go_loopw [1] (fun v wr => ∃ k : Nat, k ≤ 8 ∧ v = .int .i64 ((k : Int) - 1) ∧ Aside0 (Below w.heap.size w wr)) (fun v _ => (7 - intOf v).toNat)
  case atStart => exact ⟨0, by omega, rfl, ⟨Below.refl _ _⟩⟩
  case round =>
    obtain ⟨k, hk, rfl, HB⟩ := hrel
    by_cases hlt : (k : Int) - 1 < 7
    · obtain ⟨kd, hkd⟩ : ∃ kd : Int, (k : Int) - 1 = kd := ⟨_, rfl⟩
      rw [hkd] at hlt ⊢
      have hkd' := Aside0.mk hkd
      obtain ⟨wo, hwo⟩ : ∃ wo : World, wo = wr := ⟨_, rfl⟩
      subst hwo
      clear hkd
      go_wp2
      have HL0 : Aside0 (Kd.C (Kd.int .i64) (wo.alloc (.cells #[.int .i64 0, .int .i64 1, .int .i64 2, .int .i64 3, .int .i64 4, .int .i64 9, .int .i64 10, .int .i64 11, .int .i64 4076, .int .i64 4077, .int .i64 4078] 3)) (some ⟨wo.heap.size, 0, none⟩) 11 lens) := ⟨lit_C (k := .i64) (e := 3) wo wo.heap.size rfl lens 11 rfl (by omega)⟩
      have HB0 := Aside0.mk (below_alloc HB.out (.cells #[.int .i64 0, .int .i64 1, .int .i64 2, .int .i64 3, .int .i64 4, .int .i64 9, .int .i64 10, .int .i64 11, .int .i64 4076, .int .i64 4077, .int .i64 4078] 3))
      go_loopw [20] (fun v wr => ∃ i : Nat, i ≤ 11 ∧ v = .int .i64 i ∧ Aside0 (Below w.heap.size w wr) ∧ Aside0 (Kd.C (Kd.int .i64) wr (some ⟨wo.heap.size, 0, none⟩) 11 lens)) (fun v _ => 11 - (intOf v).toNat)
      case atStart => exact ⟨0, by omega, rfl, HB0, HL0⟩
      case round =>
        obtain ⟨i, hi, rfl, HB1, HL1⟩ := hrel
        clear HB0 HL0
        by_cases hlt2 : i < 11
        · have hlt3 : (i : Int) < 11 := by omega
          obtain ⟨m, hm, hm4⟩ := lens_at i
          have q := (intCells HL1.out (by omega))
          obtain ⟨ad, ha, q⟩ := q
          injection ha with ha
          have q := q i hlt2
          rw [← ha, add_plain, hm] at q
          have hmm := Aside0.mk hm
          clear hm ha
          have hzb : ∀ x ∈ List.replicate m (0 : Int), 0 ≤ x ∧ x ≤ 255 := fun x hx => by rw [List.eq_of_mem_replicate hx]; omega
          have HYB := Aside0.mk (joined_bytes kd (List.replicate m 0) hzb)
          have HYL := joined_len kd (List.replicate m 0)
          clear hzb
          obtain ⟨Y, hY⟩ : ∃ Y, joined kd (List.replicate m 0) = Y := ⟨_, rfl⟩
          obtain ⟨E, hE⟩ : ∃ E, joinedErr kd (List.replicate m 0) = E := ⟨_, rfl⟩
          obtain ⟨N, hN⟩ : ∃ N, Y.length = N := ⟨_, rfl⟩
          rw [hY] at HYB HYL
          rw [hN] at HYL
          have HY := Aside0.mk hY
          have HE := Aside0.mk hE
          have HN := Aside0.mk hN
          clear hY hE hN
          by_cases h0 : N = 0
          · subst h0
            go_wp2_with (first
              | ((with_reducible refine gate_dst (N := 27) rfl ?_); refine Kd.R_make (Kd.int .u8) (w0 := wr) wr.heap.size 5 rfl (N := 27) rfl 23 (.tmp 26) (.tmp 26) rfl (m : Int) rfl rfl Try.underlying23 (.int .u8 0) 1 info5 rfl (by decide) (by decide) 0 (ok := fun _ => True) (okp := fun _ => True) rfl (fun _ h => h) trivial (by omega) (by omega) (Below.refl _ _) (Nat.le_refl _) ?_; intro v1 w1 ho hb hg_ hn_; clear hg_ hn_; obtain ⟨A1, c1, rfl, hl1, hc1⟩ := Kd.R_reads ho; have HC1 := Aside0.mk hc1; have HX1 := Aside0.mk hb; clear ho hb hl1 hc1; simp only [List.length_replicate, Int.toNat_natCast] at *)
              | (go_at_call 8; refine (join_n kd A1 m c1 (List.replicate m 0) _ HC1.out (by omega)).mono ?_; rw [HY.out, HE.out]; rintro e w2 ⟨v2, rfl, hr2, hb2⟩; obtain ⟨A3, c3, rfl, _, hc3⟩ := Kd.R_reads hr2; have HX2 := Aside0.mk (below_step HX1.out hb2); have HC3 := Aside0.mk hc3; clear hr2 hb2 hc3)
              | ((with_reducible refine gate_dst (N := 34) rfl ?_); refine Kd.R_make (Kd.int .u8) (w0 := w2) w2.heap.size 5 rfl (N := 34) rfl 23 (.tmp 33) (.tmp 33) rfl (m : Int) rfl rfl Try.underlying23 (.int .u8 0) 1 info5 rfl (by decide) (by decide) 0 (ok := fun _ => True) (okp := fun _ => True) rfl (fun _ h => h) trivial (by omega) (by omega) (Below.refl _ _) (Nat.le_refl _) ?_; intro v3 w3 ho hb hg_ hn_; clear hg_ hn_; obtain ⟨A2, c2, rfl, hl2, hc2⟩ := Kd.R_reads ho; have HC2 := Aside0.mk hc2; have HX3 := Aside0.mk (below_step HX2.out hb); have HC3' := Aside0.mk (Kd.C_below HC3.out hb); clear ho hb hc2; simp only [List.length_replicate, Int.toNat_natCast] at *)
              | (go_at_call 9; refine (refJoin_any kd A2 m c2 (List.replicate m 0) _ HC2.out hl2 (by omega)).mono ?_; rw [HY.out, HE.out]; rintro e w4 ⟨v4, rfl, hr4, hb4⟩; obtain ⟨A4, c4, rfl, hl4, hc4⟩ := Kd.R_reads hr4; have HC3'' := Aside0.mk (Kd.C_below HC3'.out hb4); have s1 := Kd.C_string (P := Try.prog) (A := A3) (c := c3) Try.underlying23 Try.underlying5 Try.underlying9 HC3''.out; have s2 := Kd.C_string (P := Try.prog) (A := A4) (c := c4) Try.underlying23 Try.underlying5 Try.underlying9 hc4; have HX4 := Aside0.mk (below_step HX3.out hb4); rw [HN.out] at hl4 hc4 s1 s2; rw [HN.out]; have HC4 := Aside0.mk hc4; clear hr4 hb4 hc4)
              | (go_at_call 10; (with_reducible refine (split_true A4 0 c4 Y _ HC4.out hl4 HYB.out (by omega)).mono ?_); rintro e w6 ⟨rfl, hb6⟩; have HC6 := Aside0.mk (Kd.C_below HC4.out hb6); have HX6 := Aside0.mk (below_step HX4.out hb6); have HB6 := Aside0.mk (below_step HB1.out HX6.out); have HL6 := Aside0.mk (Kd.C_below HL1.out HX6.out); clear hb6)
            )
            go_roundw
            case rel => exact ⟨i + 1, by omega, by go_num, HB6, HL6⟩
            case measure => simp [intOf]; omega
          · have h0' : (0 : Int) < (N : Int) := by omega
            have h0'' : 0 < N := by omega
            go_wp2_with (first
              | ((with_reducible refine gate_dst (N := 27) rfl ?_); refine Kd.R_make (Kd.int .u8) (w0 := wr) wr.heap.size 5 rfl (N := 27) rfl 23 (.tmp 26) (.tmp 26) rfl (m : Int) rfl rfl Try.underlying23 (.int .u8 0) 1 info5 rfl (by decide) (by decide) 0 (ok := fun _ => True) (okp := fun _ => True) rfl (fun _ h => h) trivial (by omega) (by omega) (Below.refl _ _) (Nat.le_refl _) ?_; intro v1 w1 ho hb hg_ hn_; clear hg_ hn_; obtain ⟨A1, c1, rfl, hl1, hc1⟩ := Kd.R_reads ho; have HC1 := Aside0.mk hc1; have HX1 := Aside0.mk hb; clear ho hb hl1 hc1; simp only [List.length_replicate, Int.toNat_natCast] at *)
              | (go_at_call 8; refine (join_n kd A1 m c1 (List.replicate m 0) _ HC1.out (by omega)).mono ?_; rw [HY.out, HE.out]; rintro e w2 ⟨v2, rfl, hr2, hb2⟩; obtain ⟨A3, c3, rfl, _, hc3⟩ := Kd.R_reads hr2; have HX2 := Aside0.mk (below_step HX1.out hb2); have HC3 := Aside0.mk hc3; clear hr2 hb2 hc3)
              | ((with_reducible refine gate_dst (N := 34) rfl ?_); refine Kd.R_make (Kd.int .u8) (w0 := w2) w2.heap.size 5 rfl (N := 34) rfl 23 (.tmp 33) (.tmp 33) rfl (m : Int) rfl rfl Try.underlying23 (.int .u8 0) 1 info5 rfl (by decide) (by decide) 0 (ok := fun _ => True) (okp := fun _ => True) rfl (fun _ h => h) trivial (by omega) (by omega) (Below.refl _ _) (Nat.le_refl _) ?_; intro v3 w3 ho hb hg_ hn_; clear hg_ hn_; obtain ⟨A2, c2, rfl, hl2, hc2⟩ := Kd.R_reads ho; have HC2 := Aside0.mk hc2; have HX3 := Aside0.mk (below_step HX2.out hb); have HC3' := Aside0.mk (Kd.C_below HC3.out hb); clear ho hb hc2; simp only [List.length_replicate, Int.toNat_natCast] at *)
              | (go_at_call 9; refine (refJoin_any kd A2 m c2 (List.replicate m 0) _ HC2.out hl2 (by omega)).mono ?_; rw [HY.out, HE.out]; rintro e w4 ⟨v4, rfl, hr4, hb4⟩; obtain ⟨A4, c4, rfl, hl4, hc4⟩ := Kd.R_reads hr4; have HC3'' := Aside0.mk (Kd.C_below HC3'.out hb4); have s1 := Kd.C_string (P := Try.prog) (A := A3) (c := c3) Try.underlying23 Try.underlying5 Try.underlying9 HC3''.out; have s2 := Kd.C_string (P := Try.prog) (A := A4) (c := c4) Try.underlying23 Try.underlying5 Try.underlying9 hc4; have HX4 := Aside0.mk (below_step HX3.out hb4); rw [HN.out] at hl4 hc4 s1 s2; rw [HN.out]; have HC4 := Aside0.mk hc4; clear hr4 hb4 hc4)
              | (go_at_call 10; (with_reducible refine (split_true A4 N c4 Y _ HC4.out hl4 HYB.out (by omega)).mono ?_); rintro e w6 ⟨rfl, hb6⟩; have HC6 := Aside0.mk (Kd.C_below HC4.out hb6); have HX6 := Aside0.mk (below_step HX4.out hb6); have HB6 := Aside0.mk (below_step HB1.out HX6.out); have HL6 := Aside0.mk (Kd.C_below HL1.out HX6.out); clear hb6)
              | (go_at_call 10; (with_reducible refine (split_true A4 (N - 1) c4 (Y.take (N - 1)) _ ((cutH (P := Try.prog) (d := Kd.int .u8) 23 5 Try.underlying23 sz5 A4 N c4 Y ((N : Int) - 1) (N - 1) (by omega) (by omega) hl4).2 _ HC6.out) (by omega) (fun x hx => HYB.out x (List.mem_of_mem_take hx)) (by omega)).mono ?_); rintro e w7 ⟨rfl, hb7⟩; have HC7 := Aside0.mk (Kd.C_below HC6.out hb7); have HX7 := Aside0.mk (below_step HX6.out hb7); clear hb7)
              | ((with_reducible refine gate_builtin (b := .append) (xs := #[.tmp 65, .tmp 66]) rfl ?_); at_builtin; refine gate_guard (by kernel_rfl) ?_; refine Kd.R_append_rows (Kd.int .u8) (w0 := w7) w7.heap.size rfl (.tmp 65) (.tmp 66) 23 5 (.int .u8 0) 1 rfl Try.underlying23 info5 rfl (by decide) (by omega) _ [] Y _ _ _ (fun _ => True) (fun _ => False) rfl rfl (Kd.R_of_own (own_lit w7 w7.heap.size 5 .u8 [] (Nat.le_refl _) (by simp)) (fun _ _ => trivial)) (Kd.C_alloc HC7.out _) (fun _ _ h => h) (fun _ h => h.elim) (fun _ _ => trivial) (below_alloc (Below.refl _ _) _) (by simp) (by simp; omega) ?_; rw [List.nil_append]; intro v8 w8 ho hb hg_ hn_; clear hg_ hn_; obtain ⟨A8, c8, rfl, hl8, hc8⟩ := Kd.R_reads ho; have HB8 := Aside0.mk hb; have HX8 := Aside0.mk (below_step HX7.out hb); have HC8 := Aside0.mk ho; rw [HN.out]; clear ho hb hc8)
              | ((with_reducible refine gate_builtin (b := .append) (xs := #[.tmp 67, .tmp 68]) rfl ?_); at_builtin; refine gate_guard (by kernel_rfl) ?_; refine Kd.R_append_rows (Kd.int .u8) (w0 := w7) w7.heap.size rfl (.tmp 67) (.tmp 68) 23 5 (.int .u8 0) 1 rfl Try.underlying23 info5 rfl (by decide) (by omega) _ Y [255] _ _ _ (fun _ => True) (fun _ => False) rfl rfl (by have := Kd.R_below HC8.out (below_alloc (Below.refl _ _) (.cells #[.int .u8 255] 5)); rwa [HN.out] at this) (lit_C (k := .u8) (e := 5) w8 w8.heap.size rfl [255] 1 rfl (by omega)) (fun _ _ h => h) (fun _ h => h.elim) (fun _ _ => trivial) (below_alloc HB8.out _) (by have := below_size HB8.out; simp; omega) (by rw [HN.out]; omega) ?_; intro v9 w9 ho hb hg_ hn_; clear hg_ hn_; obtain ⟨A9, c9, rfl, hl9, hc9⟩ := Kd.R_reads ho; have hY1 : (Y ++ [255]).length = N + 1 := (by rw [List.length_append, HN.out]; rfl); rw [hY1] at hl9 hc9; rw [hY1]; have HX9 := Aside0.mk (below_step HX7.out hb); have HC9 := Aside0.mk hc9; clear ho hb hc9 hY1)
              | (go_at_call 10; (with_reducible refine (split_true A9 (N + 1) c9 (Y ++ [255]) _ HC9.out hl9 (snoc_bytes HYB.out 255 (by omega) (by omega)) (by omega)).mono ?_); rintro e w10 ⟨rfl, hb10⟩; have HX10 := Aside0.mk (below_step HX9.out hb10); have HB10 := Aside0.mk (below_step HB1.out HX10.out); have HL10 := Aside0.mk (Kd.C_below HL1.out HX10.out); clear hb10)
            )
            go_roundw
            case rel => exact ⟨i + 1, by omega, by go_num, HB10, HL10⟩
            case measure => simp [intOf]; omega
        · have hge : ¬ (i : Int) < 11 := by omega
          obtain rfl : i = 11 := by omega
          go_wp2
          go_roundw
          case rel =>
            have h := hkd'.out
            refine ⟨k + 1, by omega, ?_, HB1⟩
            rw [wrap64_in (kd + 1) (by omega) (by omega)]
            congr 1
            omega
          case measure =>
            have h := hkd'.out
            rw [wrap64_in (kd + 1) (by omega) (by omega)]
            simp [intOf]
            omega
    · obtain rfl : k = 8 := by omega
      go_wp2_with (go_at_call 9; refine (refJoin_any 4 none 0 0 [] _ (Kd.C_nil _ _) (by omega) (by omega)).mono ?_; rw [show joined 4 [] = whole from rfl]; rintro e w1 ⟨v1, rfl, hr1, hb1⟩; obtain ⟨A1, c1, rfl, hl1, hc1⟩ := Kd.R_reads hr1; rw [show whole.length = 19 from rfl] at hl1 hc1; rw [show whole.length = 19 from rfl]; have HC1 := Aside0.mk hc1; have HB1 := Aside0.mk (below_step HB.out hb1); clear hr1 hb1 hc1)
      go_loopw [10] (fun v wr => ∃ k : Nat, k ≤ 19 ∧ v = .int .i64 (k : Int) ∧ Aside0 (Below w.heap.size w wr) ∧ Aside0 (Kd.C (Kd.int .u8) wr A1 19 whole)) (fun v _ => 19 - (intOf v).toNat)
      case atStart => exact ⟨0, by omega, rfl, HB1, HC1⟩
      case round =>
        clear HB HB1 HC1 hk
        obtain ⟨k, hk, rfl, HB, HC⟩ := hrel
        by_cases hlt : k < 19
        · have hlt' : (k : Int) < 19 := by omega
          obtain ⟨wo, hwo⟩ : ∃ wo : World, wo = wr := ⟨_, rfl⟩
          subst hwo
          go_wp2
          have HL0 : Aside0 (Kd.C (Kd.int .u8) (wo.alloc (.cells #[.int .u8 0, .int .u8 1, .int .u8 5, .int .u8 16, .int .u8 18, .int .u8 19, .int .u8 20, .int .u8 255] 5)) (some ⟨wo.heap.size, 0, none⟩) 8 tos) := ⟨lit_C (k := .u8) (e := 5) wo wo.heap.size rfl tos 8 rfl (by omega)⟩
          have HB0 := Aside0.mk (below_alloc HB.out (.cells #[.int .u8 0, .int .u8 1, .int .u8 5, .int .u8 16, .int .u8 18, .int .u8 19, .int .u8 20, .int .u8 255] 5))
          have HC0 := Aside0.mk (Kd.C_alloc HC.out (.cells #[.int .u8 0, .int .u8 1, .int .u8 5, .int .u8 16, .int .u8 18, .int .u8 19, .int .u8 20, .int .u8 255] 5))
          go_loopw [85] (fun v wr => ∃ i : Nat, i ≤ 8 ∧ v = .int .i64 i ∧ Aside0 (Below w.heap.size w wr) ∧ Aside0 (Kd.C (Kd.int .u8) wr (some ⟨wo.heap.size, 0, none⟩) 8 tos) ∧ Aside0 (Kd.C (Kd.int .u8) wr A1 19 whole)) (fun v _ => 8 - (intOf v).toNat)
          case atStart => exact ⟨0, by omega, rfl, HB0, HL0, HC0⟩
          case round =>
            obtain ⟨i, hi, rfl, HB1, HL1, HC1⟩ := hrel
            clear HB0 HL0 HC0
            by_cases hlt2 : i < 8
            · have hlt3 : (i : Int) < 8 := by omega
              obtain ⟨t0, t1⟩ := tos_at i
              obtain ⟨ad, ha, q⟩ := (intCells HL1.out (by omega))
              injection ha with ha
              have q := q i hlt2
              obtain ⟨t, ht⟩ : ∃ t, tos.getD i 0 = t := ⟨_, rfl⟩
              rw [← ha, add_plain, ht] at q
              rw [ht] at t0 t1
              have HWB := Aside0.mk (whole_set k t t0 t1)
              clear ha ht
              go_wp2_with ((with_reducible refine gate_builtin (b := .append) (xs := #[.tmp 89, .tmp 90]) rfl ?_); at_builtin; refine Kd.R_append_rows (Kd.int .u8) (w0 := wr) wr.heap.size rfl (.tmp 89) (.tmp 90) 23 5 (.int .u8 0) 1 rfl Try.underlying23 info5 rfl (by decide) (by omega) _ [] whole _ _ _ (fun _ => True) (fun _ => False) rfl rfl (Kd.R_of_own (own_lit wr wr.heap.size 5 .u8 [] (Nat.le_refl _) (by simp)) (fun _ _ => trivial)) (Kd.C_alloc HC1.out _) (fun _ _ h => h) (fun _ h => h.elim) (fun _ _ => trivial) (below_alloc (Below.refl _ _) _) (by simp) (by simp) ?_; rw [List.nil_append]; intro v8 w8 ho hb hg_ hn_; clear hg_ hn_; obtain ⟨g, c8, rfl, hl8, hg, hcell, hfz⟩ := R_cells ho (by decide); have HR8 := Aside0.mk ho; have HX8 := Aside0.mk hb; have q8 := hcell k hlt; have qf := hfz k; clear ho hb hcell hfz; obtain ⟨z8, hz8⟩ : ∃ z, whole.getD k 0 = z := ⟨_, rfl⟩; rw [hz8] at q8; rw [show whole.length = 19 from rfl] at hl8; rw [show whole.length = 19 from rfl]; clear hz8)
              have hput := Kd.R_put (show Kd.R (Kd.int .u8) 5 w8 wr.heap.size (fun _ => True) (.slice (some ⟨g, 0, none⟩) whole.length c8) whole from HR8.out) (k : Int) t
              rw [Int.toNat_natCast] at hput
              have HR9 : Aside0 (Kd.R (Kd.int .u8) 5 (w8.setCell ⟨g, k, none⟩ (.int .u8 t)) wr.heap.size (fun _ => True) (.slice (some ⟨g, 0, none⟩) 19 c8) (whole.set k t)) := ⟨hput.1⟩
              have HC9 : Aside0 (Kd.C (Kd.int .u8) (w8.setCell ⟨g, k, none⟩ (.int .u8 t)) (some ⟨g, 0, none⟩) 19 (whole.set k t)) := ⟨by
                have hn : (whole.set k t).length = 19 := by rw [List.length_set]; rfl
                obtain ⟨A', c', hv', _, hc'⟩ := Kd.R_reads hput.1
                injection hv' with hA' _ _
                rw [hn, ← hA'] at hc'
                exact hc'⟩
              have HX9 := Aside0.mk (below_set (j := k) (v := .int .u8 t) HX8.out hg)
              have hn9 : (whole.set k t).length = 19 := by rw [List.length_set]; rfl
              clear hput HR8 HX8 q8 qf q
              obtain ⟨w9, hw9⟩ : ∃ w9, w8.setCell ⟨g, k, none⟩ (.int .u8 t) = w9 := ⟨_, rfl⟩
              rw [hw9] at HR9 HC9 HX9 ⊢
              clear hw9
              refine (split_true (some ⟨g, 0, none⟩) 19 c8 (whole.set k t) _ HC9.out hl8 HWB.out (by omega)).mono ?_
              rintro e w10 ⟨rfl, hb10⟩
              have HR10 := Aside0.mk (Kd.R_below HR9.out hb10)
              have HX10 := Aside0.mk (below_step HX9.out hb10)
              have hn11 : (whole.set k t ++ List.replicate (300 : Int).toNat 0).length = 319 := by rw [List.length_append, List.length_set, List.length_replicate]; rfl
              clear hb10
              go_wp2_with (first
                | ((with_reducible refine gate_builtin (b := .append) (xs := #[.tmp 100, .const (.int .i64 300)]) rfl ?_); at_builtin; refine gate_guard (by kernel_rfl) ?_; refine Kd.R_append_zeros (Kd.int .u8) (w0 := wr) wr.heap.size rfl (.tmp 100) (.const (.int .i64 300)) 23 3 5 (.int .u8 0) 1 rfl Try.underlying23 Try.underlying3 info5 rfl (by decide) (by omega) _ (whole.set k t) 0 300 (fun _ => True) rfl rfl rfl (fun _ _ => trivial) HR10.out (by omega) HX10.out (below_size HX10.out) (by rw [hn9]; decide) ?_; intro v11 w11 ho hb hg_ hn_; clear hg_ hn_; obtain ⟨A11, c11, rfl, hl11, hc11⟩ := Kd.R_reads ho; rw [hn11] at hl11 hc11; rw [hn11]; have HX11 := Aside0.mk hb; have HC11 := Aside0.mk hc11; clear ho hb hc11)
                | (go_at_call 10; (with_reducible refine (split_true A11 319 c11 (whole.set k t ++ List.replicate (300 : Int).toNat 0) _ HC11.out hl11 (zeros_bytes HWB.out _) (by omega)).mono ?_); rintro e w12 ⟨rfl, hb12⟩; have HX12 := Aside0.mk (below_step HX11.out hb12); have HB12 := Aside0.mk (below_step HB1.out HX12.out); have HL12 := Aside0.mk (Kd.C_below HL1.out HX12.out); have HC12 := Aside0.mk (Kd.C_below HC1.out HX12.out); clear hb12)
              )
              go_roundw
              case rel => exact ⟨i + 1, by omega, by go_num, HB12, HL12, HC12⟩
              case measure => simp [intOf]; omega
            · obtain rfl : i = 8 := by omega
              have hge : ¬ (8 : Int) < 8 := by omega
              go_wp2
              go_roundw
              case rel => exact ⟨k + 1, by omega, by go_num, HB1, HC1⟩
              case measure => simp [intOf]; omega
        · obtain rfl : k = 19 := by omega
          have hge : ¬ (19 : Int) < 19 := by omega
          have HZ : Aside0 (∀ W, Kd.C (Kd.int .u8) W none 0 []) := ⟨fun W => Kd.C_nil _ _⟩
          have HW18 : Aside0 (∀ W, Kd.C (Kd.int .u8) W A1 19 whole → Kd.C (Kd.int .u8) W A1 18 (whole.take 18)) := ⟨fun W h => (cutH (P := Try.prog) (d := Kd.int .u8) 23 5 Try.underlying23 sz5 A1 19 c1 whole 18 18 rfl (by omega) hl1).2 W h⟩
          have hb18 : Aside0 (∀ x ∈ whole.take 18, 0 ≤ x ∧ x ≤ 255) := ⟨by decide⟩
          go_wp2_with fail
          refine (split_true none 0 0 [] _ (HZ.out _) (by omega) (fun x hx => by cases hx) (by omega)).mono ?_
          rintro e w2 ⟨rfl, hb2⟩
          have HB2 := Aside0.mk (below_step HB.out hb2)
          have HC2 := Aside0.mk (Kd.C_below HC.out hb2)
          clear hb2
          go_wp2_with fail
          refine (split_true A1 18 c1 (whole.take 18) _ (HW18.out _ HC2.out) (by omega) hb18.out (by omega)).mono ?_
          rintro e w3 ⟨rfl, hb3⟩
          have HB3 := Aside0.mk (below_step HB2.out hb3)
          clear hb3
          go_wp2_with fail
          refine (known_any _).mono ?_
          rintro e w4 ⟨rfl, hb4⟩
          have HB4 := Aside0.mk (below_step HB3.out hb4)
          clear hb4
          go_wp2
          go_ret
          exact ⟨rfl, HB4.out⟩

theorem FrameNumbers_row (w : World) : Calls Try.prog 3 #[] w fun e w' => e = .returned (.bool true) ∧ Below w.heap.size w w' := FrameNumbers_walk w
end Go.Proofs.Ytbjfkonkmgghfaa.Mine
