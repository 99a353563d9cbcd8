/- The walk of the law FrameSizes. -/
import Derived.Test.YtbjfkonkmgghfaaAKnown
import Derived.Test.YtbjfkonkmgghfaaAWithin
import Derived.Test.YtbjfkonkmgghfaaARegion
namespace Go.Proofs.Ytbjfkonkmgghfaa.Mine
open Go.RowKit Go.Proofs.YtbjfkonkmgghfaaW.PrintWords Go.Proofs.YtbjfkonkmgghfaaW.PrintLast Go.Proofs.YtbjfkonkmgghfaaW.PrintMore
set_option linter.unusedVariables false
set_option linter.unusedSimpArgs false

/-- The bytes of a message of k noughts at its head. -/
theorem joined_head (kind : Int) (k : Nat) (h1 : ¬ kind < 1) (h2 : ¬ 4 < kind) (h3 : k ≤ 4077) (body : List Int) (hb : body.length = k) :
    joinedErr kind body = 0 ∧ joined kind body = ones16 ++ ([(19 + (k : Int)) / 256, (19 + (k : Int)) % 256, kind] ++ body) := by
  subst hb
  refine ⟨by simp [joinedErr, h1, h2]; omega, ?_⟩
  rw [joined, if_neg h1, if_neg h2, if_neg (by omega)]
  unfold head19
  rw [List.append_assoc, List.append_assoc]
  have e1 : bePart (19 + (body.length : Int)) 2 0 = [(19 + (body.length : Int)) / 256, (19 + (body.length : Int)) % 256] := by
    simp [bePart, beByte, List.range_succ]
    omega
  have e2 : bePart kind 1 0 = [kind] := by
    simp [bePart, beByte, List.range_succ]
    omega
  rw [e1, e2]
  rfl

theorem head_cells {w2 : World} {A2 : Option Addr} {a b kind : Int} {m : Nat} (hc2 : Kd.C (Kd.int .u8) w2 A2 (ones16 ++ ([a, b, kind] ++ List.replicate m 0)).length (ones16 ++ ([a, b, kind] ++ List.replicate m 0))) :
    ∃ p o, A2 = some ⟨p, o, none⟩ ∧ (ones16 ++ ([a, b, kind] ++ List.replicate m 0)).length = m + 19 ∧ w2.cell? ⟨p, o + 16, none⟩ = some (.int .u8 a) ∧ w2.cell? ⟨p, o + 17, none⟩ = some (.int .u8 b) ∧ w2.cell? ⟨p, o + 18, none⟩ = some (.int .u8 kind) := by
  have hlen : (ones16 ++ ([a, b, kind] ++ List.replicate m 0)).length = m + 19 := by
    rw [List.length_append, List.length_append, List.length_replicate]
    show 16 + (3 + m) = m + 19
    omega
  obtain ⟨p2, o2, rfl, hcell⟩ := intCells2 hc2 (by omega)
  exact ⟨p2, o2, rfl, hlen, hcell 16 (by omega), hcell 17 (by omega), hcell 18 (by omega)⟩

set_option maxRecDepth 100000 in
set_option maxHeartbeats 1600000 in
theorem FrameSizes_walk (kind n : Int) (w : World) : Calls Try.prog 7 #[.int .i64 kind, .int .i64 n] w fun e w' => e = .returned (.bool true) ∧ Below w.heap.size w w' := by
  go_enter Try.func7, Try.ntmps7
  go_wp2_with fail
  refine (within_any n 0 5000 (by omega) (by omega) (by omega) _).mono ?_
  rintro e w' ⟨r, r0, r1, rfl, rfl⟩
  obtain ⟨m, rfl⟩ := Int.eq_ofNat_of_zero_le r0
  by_cases h1 : kind < 1
  · go_wp2_with (first
    | ((with_reducible refine gate_dst (N := 13) rfl ?_); refine Kd.R_make (Kd.int .u8) (w0 := w) w.heap.size 5 rfl (N := 13) rfl 23 (.tmp 12) (.tmp 12) rfl (m : Int) rfl rfl Try.underlying23 (.int .u8 0) 1 info5 rfl (by decide) (by decide) 0 (ok := fun _ => True) (okp := fun _ => True) rfl (fun _ h => h) trivial r0 (by omega) (Below.refl _ _) (Nat.le_refl _) ?_; intro v1 w1 ho hb hg_ hn_; clear hg_ hn_; obtain ⟨A1, c1, rfl, hl1, hc1⟩ := Kd.R_reads ho; have HC1 := Aside0.mk hc1; have HB1 := Aside0.mk hb; clear ho hb hl1 hc1; simp only [List.length_replicate, Int.toNat_natCast] at *)
    | (go_at_call 8; go_loud (refine (join_n kind A1 m c1 (List.replicate m 0) _ HC1.out (by omega)).mono ?_; rintro e w2 ⟨v2, rfl, hr2, hb2⟩; rw [show joinedErr kind (List.replicate m 0) = 23 from by simp [joinedErr, h1]]; rw [show joined kind (List.replicate m 0) = [] from by simp [joined, h1]] at hr2; obtain ⟨A2, c2, rfl, hl2, hc2⟩ := Kd.R_reads hr2; have HB2 := Aside0.mk (below_step HB1.out hb2); clear hr2 hb2 hl2 hc2))
    | (go_at_call 11; refine (known_any _).mono ?_; rintro e w3 ⟨rfl, hb3⟩; have HB3 := Aside0.mk (below_step HB2.out hb3); clear hb3))
    go_ret
    exact ⟨rfl, HB3.out⟩
  have h1' : decide (kind < 1) = false := decide_eq_false h1
  by_cases h2 : 4 < kind
  · go_wp2_with (first
    | ((with_reducible refine gate_dst (N := 13) rfl ?_); refine Kd.R_make (Kd.int .u8) (w0 := w) w.heap.size 5 rfl (N := 13) rfl 23 (.tmp 12) (.tmp 12) rfl (m : Int) rfl rfl Try.underlying23 (.int .u8 0) 1 info5 rfl (by decide) (by decide) 0 (ok := fun _ => True) (okp := fun _ => True) rfl (fun _ h => h) trivial r0 (by omega) (Below.refl _ _) (Nat.le_refl _) ?_; intro v1 w1 ho hb hg_ hn_; clear hg_ hn_; obtain ⟨A1, c1, rfl, hl1, hc1⟩ := Kd.R_reads ho; have HC1 := Aside0.mk hc1; have HB1 := Aside0.mk hb; clear ho hb hl1 hc1; simp only [List.length_replicate, Int.toNat_natCast] at *)
    | (go_at_call 8; go_loud (refine (join_n kind A1 m c1 (List.replicate m 0) _ HC1.out (by omega)).mono ?_; rintro e w2 ⟨v2, rfl, hr2, hb2⟩; rw [show joinedErr kind (List.replicate m 0) = 23 from by simp [joinedErr, h1, h2]]; rw [show joined kind (List.replicate m 0) = [] from by simp [joined, h1, h2]] at hr2; obtain ⟨A2, c2, rfl, hl2, hc2⟩ := Kd.R_reads hr2; have HB2 := Aside0.mk (below_step HB1.out hb2); clear hr2 hb2 hl2 hc2))
    | (go_at_call 11; refine (known_any _).mono ?_; rintro e w3 ⟨rfl, hb3⟩; have HB3 := Aside0.mk (below_step HB2.out hb3); clear hb3))
    go_ret
    exact ⟨rfl, HB3.out⟩
  have h2' : decide (4 < kind) = false := decide_eq_false h2
  by_cases h3 : 4077 < m
  · go_wp2_with (first
    | ((with_reducible refine gate_dst (N := 13) rfl ?_); refine Kd.R_make (Kd.int .u8) (w0 := w) w.heap.size 5 rfl (N := 13) rfl 23 (.tmp 12) (.tmp 12) rfl (m : Int) rfl rfl Try.underlying23 (.int .u8 0) 1 info5 rfl (by decide) (by decide) 0 (ok := fun _ => True) (okp := fun _ => True) rfl (fun _ h => h) trivial r0 (by omega) (Below.refl _ _) (Nat.le_refl _) ?_; intro v1 w1 ho hb hg_ hn_; clear hg_ hn_; obtain ⟨A1, c1, rfl, hl1, hc1⟩ := Kd.R_reads ho; have HC1 := Aside0.mk hc1; have HB1 := Aside0.mk hb; clear ho hb hl1 hc1; simp only [List.length_replicate, Int.toNat_natCast] at *)
    | (go_at_call 8; go_loud (refine (join_n kind A1 m c1 (List.replicate m 0) _ HC1.out (by omega)).mono ?_; rintro e w2 ⟨v2, rfl, hr2, hb2⟩; rw [show joinedErr kind (List.replicate m 0) = 3 from by simp [joinedErr, h1, h2]; omega]; rw [show joined kind (List.replicate m 0) = [] from by simp [joined, h1, h2]; omega] at hr2; obtain ⟨A2, c2, rfl, hl2, hc2⟩ := Kd.R_reads hr2; have HB2 := Aside0.mk (below_step HB1.out hb2); clear hr2 hb2 hl2 hc2))
    | (go_at_call 11; refine (known_any _).mono ?_; rintro e w3 ⟨rfl, hb3⟩; have HB3 := Aside0.mk (below_step HB2.out hb3); clear hb3))
    go_ret
    exact ⟨rfl, HB3.out⟩
  · obtain ⟨a, ha⟩ : ∃ a : Int, (19 + (m : Int)) / 256 = a := ⟨_, rfl⟩
    obtain ⟨b, hb⟩ : ∃ b : Int, (19 + (m : Int)) % 256 = b := ⟨_, rfl⟩
    have JH := Aside0.mk (joined_head kind m h1 h2 (by omega) (List.replicate m 0) (List.length_replicate ..))
    rw [ha, hb] at JH
    have a0 : 0 ≤ a := by omega
    have a1 : a ≤ 255 := by omega
    have b0 : 0 ≤ b := by omega
    have b1 : b ≤ 255 := by omega
    have hq : (a * 256 + b == (m : Int) + 19) = true := beq_iff_eq.mpr (by omega)
    have wa := wrap_i64 a (by omega) (by omega)
    have wb := wrap_i64 b (by omega) (by omega)
    have wk := wrap_i64 kind (by omega) (by omega)
    have wc := wrap_i64 (a * 256) (by omega) (by omega)
    have wd := wrap_i64 (a * 256 + b) (by omega) (by omega)
    have we := wrap_i64 ((m : Int) + 19) (by omega) (by omega)
    clear ha hb
    go_wp2_with (first
    | ((with_reducible refine gate_dst (N := 13) rfl ?_); refine Kd.R_make (Kd.int .u8) (w0 := w) w.heap.size 5 rfl (N := 13) rfl 23 (.tmp 12) (.tmp 12) rfl (m : Int) rfl rfl Try.underlying23 (.int .u8 0) 1 info5 rfl (by decide) (by decide) 0 (ok := fun _ => True) (okp := fun _ => True) rfl (fun _ h => h) trivial r0 (by omega) (Below.refl _ _) (Nat.le_refl _) ?_; intro v1 w1 ho hb hg_ hn_; clear hg_ hn_; obtain ⟨A1, c1, rfl, hl1, hc1⟩ := Kd.R_reads ho; have HC1 := Aside0.mk hc1; have HB1 := Aside0.mk hb; clear ho hb hl1 hc1; simp only [List.length_replicate, Int.toNat_natCast] at *)
    | (go_at_call 8; go_loud (refine (join_n kind A1 m c1 (List.replicate m 0) _ HC1.out (by omega)).mono ?_; rintro e w2 ⟨v2, rfl, hr2, hb2⟩; rw [JH.out.1]; rw [JH.out.2] at hr2; obtain ⟨A2, c2, rfl, hl2, hc2⟩ := Kd.R_reads hr2; obtain ⟨p2, o2, rfl, hlen, q16, q17, q18⟩ := head_cells hc2; rw [hlen]; clear hlen; have HB2 := Aside0.mk (below_step HB1.out hb2); clear hr2 hb2 hl2 hc2))
    | (go_at_call 11; refine (known_any _).mono ?_; rintro e w3 ⟨rfl, hb3⟩; have HB3 := Aside0.mk (below_step HB2.out hb3); clear hb3))
    clear JH
    refine wp_region_ord (fun w' => Below w2.heap.size w2 w') (((List.range 33).map fun i => (i, false)) ++ [(33, true), (34, false), (35, false)]) (by kernel_rfl) (by kernel_rfl) (by kernel_rfl) (by kernel_rfl) (fun _ _ _ _ h => h) ?_
    simp only [List.range, List.range.loop, List.map_cons, List.map_nil, List.cons_append, List.nil_append]
    have hS0 : Below w2.heap.size w2 w2.drew := below_drew1 (Below.refl _ _)
    have i16 : (16 : Int) < (m : Int) + 19 := by omega
    have i17 : (17 : Int) < (m : Int) + 19 := by omega
    have i18 : (18 : Int) < (m : Int) + 19 := by omega
    refine ord_quiet (v := ?v0) (a' := ?a0) rfl rfl hS0 ?hv0 ?ha0 ?_; (case hv0 => intro W hS; have c16 := pw_cell_below hS q16; have c17 := pw_cell_below hS q17; have c18 := pw_cell_below hS q18; go_simp; first | done | rfl); (case ha0 => go_simp; first | done | rfl)
    refine ord_quiet (v := ?v1) (a' := ?a1) rfl rfl hS0 ?hv1 ?ha1 ?_; (case hv1 => intro W hS; have c16 := pw_cell_below hS q16; have c17 := pw_cell_below hS q17; have c18 := pw_cell_below hS q18; go_simp; first | done | rfl); (case ha1 => go_simp; first | done | rfl)
    refine ord_quiet (v := ?v2) (a' := ?a2) rfl rfl hS0 ?hv2 ?ha2 ?_; (case hv2 => intro W hS; have c16 := pw_cell_below hS q16; have c17 := pw_cell_below hS q17; have c18 := pw_cell_below hS q18; go_simp; first | done | rfl); (case ha2 => go_simp; first | done | rfl)
    refine ord_quiet (v := ?v3) (a' := ?a3) rfl rfl hS0 ?hv3 ?ha3 ?_; (case hv3 => intro W hS; have c16 := pw_cell_below hS q16; have c17 := pw_cell_below hS q17; have c18 := pw_cell_below hS q18; go_simp; first | done | rfl); (case ha3 => go_simp; first | done | rfl)
    refine ord_quiet (v := ?v4) (a' := ?a4) rfl rfl hS0 ?hv4 ?ha4 ?_; (case hv4 => intro W hS; have c16 := pw_cell_below hS q16; have c17 := pw_cell_below hS q17; have c18 := pw_cell_below hS q18; go_simp; first | done | rfl); (case ha4 => go_simp; first | done | rfl)
    refine ord_quiet (v := ?v5) (a' := ?a5) rfl rfl hS0 ?hv5 ?ha5 ?_; (case hv5 => intro W hS; have c16 := pw_cell_below hS q16; have c17 := pw_cell_below hS q17; have c18 := pw_cell_below hS q18; go_simp; first | done | rfl); (case ha5 => go_simp; first | done | rfl)
    refine ord_quiet (v := ?v6) (a' := ?a6) rfl rfl hS0 ?hv6 ?ha6 ?_; (case hv6 => intro W hS; have c16 := pw_cell_below hS q16; have c17 := pw_cell_below hS q17; have c18 := pw_cell_below hS q18; go_simp; first | done | rfl); (case ha6 => go_simp; first | done | rfl)
    refine ord_quiet (v := ?v7) (a' := ?a7) rfl rfl hS0 ?hv7 ?ha7 ?_; (case hv7 => intro W hS; have c16 := pw_cell_below hS q16; have c17 := pw_cell_below hS q17; have c18 := pw_cell_below hS q18; go_simp; first | done | rfl); (case ha7 => go_simp; first | done | rfl)
    refine ord_quiet (v := ?v8) (a' := ?a8) rfl rfl hS0 ?hv8 ?ha8 ?_; (case hv8 => intro W hS; have c16 := pw_cell_below hS q16; have c17 := pw_cell_below hS q17; have c18 := pw_cell_below hS q18; go_simp; first | done | rfl); (case ha8 => go_simp; first | done | rfl)
    refine ord_quiet (v := ?v9) (a' := ?a9) rfl rfl hS0 ?hv9 ?ha9 ?_; (case hv9 => intro W hS; have c16 := pw_cell_below hS q16; have c17 := pw_cell_below hS q17; have c18 := pw_cell_below hS q18; go_simp; first | done | rfl); (case ha9 => go_simp; first | done | rfl)
    refine ord_quiet (v := ?v10) (a' := ?a10) rfl rfl hS0 ?hv10 ?ha10 ?_; (case hv10 => intro W hS; have c16 := pw_cell_below hS q16; have c17 := pw_cell_below hS q17; have c18 := pw_cell_below hS q18; go_simp; first | done | rfl); (case ha10 => go_simp; first | done | rfl)
    refine ord_quiet (v := ?v11) (a' := ?a11) rfl rfl hS0 ?hv11 ?ha11 ?_; (case hv11 => intro W hS; have c16 := pw_cell_below hS q16; have c17 := pw_cell_below hS q17; have c18 := pw_cell_below hS q18; go_simp; first | done | rfl); (case ha11 => go_simp; first | done | rfl)
    refine ord_quiet (v := ?v12) (a' := ?a12) rfl rfl hS0 ?hv12 ?ha12 ?_; (case hv12 => intro W hS; have c16 := pw_cell_below hS q16; have c17 := pw_cell_below hS q17; have c18 := pw_cell_below hS q18; go_simp; first | done | rfl); (case ha12 => go_simp; first | done | rfl)
    refine ord_quiet (v := ?v13) (a' := ?a13) rfl rfl hS0 ?hv13 ?ha13 ?_; (case hv13 => intro W hS; have c16 := pw_cell_below hS q16; have c17 := pw_cell_below hS q17; have c18 := pw_cell_below hS q18; go_simp; first | done | rfl); (case ha13 => go_simp; first | done | rfl)
    refine ord_quiet (v := ?v14) (a' := ?a14) rfl rfl hS0 ?hv14 ?ha14 ?_; (case hv14 => intro W hS; have c16 := pw_cell_below hS q16; have c17 := pw_cell_below hS q17; have c18 := pw_cell_below hS q18; go_simp; first | done | rfl); (case ha14 => go_simp; first | done | rfl)
    refine ord_quiet (v := ?v15) (a' := ?a15) rfl rfl hS0 ?hv15 ?ha15 ?_; (case hv15 => intro W hS; have c16 := pw_cell_below hS q16; have c17 := pw_cell_below hS q17; have c18 := pw_cell_below hS q18; go_simp; first | done | rfl); (case ha15 => go_simp; first | done | rfl)
    refine ord_quiet (v := ?v16) (a' := ?a16) rfl rfl hS0 ?hv16 ?ha16 ?_; (case hv16 => intro W hS; have c16 := pw_cell_below hS q16; have c17 := pw_cell_below hS q17; have c18 := pw_cell_below hS q18; go_simp; first | done | rfl); (case ha16 => go_simp; first | done | rfl)
    refine ord_quiet (v := ?v17) (a' := ?a17) rfl rfl hS0 ?hv17 ?ha17 ?_; (case hv17 => intro W hS; have c16 := pw_cell_below hS q16; have c17 := pw_cell_below hS q17; have c18 := pw_cell_below hS q18; go_simp; first | done | rfl); (case ha17 => go_simp; first | done | rfl)
    refine ord_quiet (v := ?v18) (a' := ?a18) rfl rfl hS0 ?hv18 ?ha18 ?_; (case hv18 => intro W hS; have c16 := pw_cell_below hS q16; have c17 := pw_cell_below hS q17; have c18 := pw_cell_below hS q18; go_simp; first | done | rfl); (case ha18 => go_simp; first | done | rfl)
    refine ord_quiet (v := ?v19) (a' := ?a19) rfl rfl hS0 ?hv19 ?ha19 ?_; (case hv19 => intro W hS; have c16 := pw_cell_below hS q16; have c17 := pw_cell_below hS q17; have c18 := pw_cell_below hS q18; go_simp; first | done | rfl); (case ha19 => go_simp; first | done | rfl)
    refine ord_quiet (v := ?v20) (a' := ?a20) rfl rfl hS0 ?hv20 ?ha20 ?_; (case hv20 => intro W hS; have c16 := pw_cell_below hS q16; have c17 := pw_cell_below hS q17; have c18 := pw_cell_below hS q18; go_simp; first | done | rfl); (case ha20 => go_simp; first | done | rfl)
    refine ord_quiet (v := ?v21) (a' := ?a21) rfl rfl hS0 ?hv21 ?ha21 ?_; (case hv21 => intro W hS; have c16 := pw_cell_below hS q16; have c17 := pw_cell_below hS q17; have c18 := pw_cell_below hS q18; go_simp; first | done | rfl); (case ha21 => go_simp; first | done | rfl)
    refine ord_quiet (v := ?v22) (a' := ?a22) rfl rfl hS0 ?hv22 ?ha22 ?_; (case hv22 => intro W hS; have c16 := pw_cell_below hS q16; have c17 := pw_cell_below hS q17; have c18 := pw_cell_below hS q18; go_simp; first | done | rfl); (case ha22 => go_simp; first | done | rfl)
    refine ord_quiet (v := ?v23) (a' := ?a23) rfl rfl hS0 ?hv23 ?ha23 ?_; (case hv23 => intro W hS; have c16 := pw_cell_below hS q16; have c17 := pw_cell_below hS q17; have c18 := pw_cell_below hS q18; go_simp; first | done | rfl); (case ha23 => go_simp; first | done | rfl)
    refine ord_quiet (v := ?v24) (a' := ?a24) rfl rfl hS0 ?hv24 ?ha24 ?_; (case hv24 => intro W hS; have c16 := pw_cell_below hS q16; have c17 := pw_cell_below hS q17; have c18 := pw_cell_below hS q18; go_simp; first | done | rfl); (case ha24 => go_simp; first | done | rfl)
    refine ord_quiet (v := ?v25) (a' := ?a25) rfl rfl hS0 ?hv25 ?ha25 ?_; (case hv25 => intro W hS; have c16 := pw_cell_below hS q16; have c17 := pw_cell_below hS q17; have c18 := pw_cell_below hS q18; go_simp; first | done | rfl); (case ha25 => go_simp; first | done | rfl)
    refine ord_quiet (v := ?v26) (a' := ?a26) rfl rfl hS0 ?hv26 ?ha26 ?_; (case hv26 => intro W hS; have c16 := pw_cell_below hS q16; have c17 := pw_cell_below hS q17; have c18 := pw_cell_below hS q18; go_simp; first | done | rfl); (case ha26 => go_simp; first | done | rfl)
    refine ord_quiet (v := ?v27) (a' := ?a27) rfl rfl hS0 ?hv27 ?ha27 ?_; (case hv27 => intro W hS; have c16 := pw_cell_below hS q16; have c17 := pw_cell_below hS q17; have c18 := pw_cell_below hS q18; go_simp; first | done | rfl); (case ha27 => go_simp; first | done | rfl)
    refine ord_quiet (v := ?v28) (a' := ?a28) rfl rfl hS0 ?hv28 ?ha28 ?_; (case hv28 => intro W hS; have c16 := pw_cell_below hS q16; have c17 := pw_cell_below hS q17; have c18 := pw_cell_below hS q18; go_simp; first | done | rfl); (case ha28 => go_simp; first | done | rfl)
    refine ord_quiet (v := ?v29) (a' := ?a29) rfl rfl hS0 ?hv29 ?ha29 ?_; (case hv29 => intro W hS; have c16 := pw_cell_below hS q16; have c17 := pw_cell_below hS q17; have c18 := pw_cell_below hS q18; go_simp; first | done | rfl); (case ha29 => go_simp; first | done | rfl)
    refine ord_quiet (v := ?v30) (a' := ?a30) rfl rfl hS0 ?hv30 ?ha30 ?_; (case hv30 => intro W hS; have c16 := pw_cell_below hS q16; have c17 := pw_cell_below hS q17; have c18 := pw_cell_below hS q18; go_simp; first | done | rfl); (case ha30 => go_simp; first | done | rfl)
    refine ord_quiet (v := ?v31) (a' := ?a31) rfl rfl hS0 ?hv31 ?ha31 ?_; (case hv31 => intro W hS; have c16 := pw_cell_below hS q16; have c17 := pw_cell_below hS q17; have c18 := pw_cell_below hS q18; go_simp; first | done | rfl); (case ha31 => go_simp; first | done | rfl)
    refine ord_quiet (v := ?v32) (a' := ?a32) rfl rfl hS0 ?hv32 ?ha32 ?_; (case hv32 => intro W hS; have c16 := pw_cell_below hS q16; have c17 := pw_cell_below hS q17; have c18 := pw_cell_below hS q18; go_simp; first | done | rfl); (case ha32 => go_simp; first | done | rfl)
    refine ord_event rfl rfl ?_
    go_simp
    refine (known_any _).mono ?_
    rintro e w3 ⟨rfl, hb3⟩
    have hS1 : Below w2.heap.size w2 w3 := below_step (below_drew1 (Below.refl _ _)) hb3
    refine ⟨hS1, ?_⟩
    refine ord_quiet (v := ?v34) (a' := ?a34) rfl rfl hS1 ?hv34 ?ha34 ?_; (case hv34 => intro W hS; go_simp; first | done | rfl); (case ha34 => go_simp; first | done | rfl)
    refine ord_quiet (v := ?v35) (a' := ?a35) rfl rfl hS1 ?hv35 ?ha35 ?_; (case hv35 => intro W hS; go_simp; first | done | rfl); (case ha35 => go_simp; first | done | rfl)
    refine ord_done ?_
    go_wp2
    go_ret
    exact ⟨rfl, below_step HB2.out hS1⟩
theorem FrameSizes_row (a0 a1 : Int) (_ : (Lit.int .i64 a0).wf = true) (_ : (Lit.int .i64 a1).wf = true) (w : World) : Calls Try.prog 7 #[.int .i64 a0, .int .i64 a1] w fun e w' => e = .returned (.bool true) ∧ Below w.heap.size w w' := FrameSizes_walk a0 a1 w
end Go.Proofs.Ytbjfkonkmgghfaa.Mine
