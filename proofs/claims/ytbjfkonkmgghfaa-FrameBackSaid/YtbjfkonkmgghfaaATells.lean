/- The walk of the law FrameTells. -/
import Derived.Test.YtbjfkonkmgghfaaASplitTrue
import Derived.Test.YtbjfkonkmgghfaaAKnown
import Derived.Test.YtbjfkonkmgghfaaAWithin
namespace Go.Proofs.Ytbjfkonkmgghfaa.Mine
open Go.RowKit Go.Proofs.YtbjfkonkmgghfaaW.PrintWords Go.Proofs.YtbjfkonkmgghfaaW.PrintLast Go.Proofs.YtbjfkonkmgghfaaW.PrintMore
set_option linter.unusedVariables false
set_option linter.unusedSimpArgs false

theorem isRow_C {w : World} {a : Option Addr} {len cap : Nat} {zs : List Int} (h : IsRow .u8 w a len cap zs) : Kd.C (Kd.int .u8) w a len (zs.take len) ∧ len ≤ cap ∧ ∀ x ∈ zs.take len, 0 ≤ x ∧ x ≤ 255 := by
  rcases h with ⟨rfl, rfl, rfl, rfl⟩ | ⟨x, rfl, hl, hm, hz, hc, hw⟩
  · exact ⟨Kd.C_nil _ _, Nat.le_refl _, by simp⟩
  · have hmx : (maxLen : Nat) = 9223372036854775807 := rfl
    refine ⟨Kd.C_of_reads (d := (0 : Int)) (h1 := fun _ => rfl) ⟨by rw [List.length_take]; omega, by omega, fun h0 => ⟨x, rfl, fun j hj => ?_⟩⟩, hl, fun y hy => wf_u8 (hw y (List.mem_of_mem_take hy))⟩
    rw [hc j (by omega)]
    simp [List.getD, List.getElem?_take, hj]

theorem xor_u8 (a b : Int) : 0 ≤ Go.bits .xor .u8 a b ∧ Go.bits .xor .u8 a b ≤ 255 := by
  unfold Go.bits
  rw [IntKind.wrap_u8]
  omega
theorem joined_bytes (kind : Int) (body : List Int) (h : ∀ x ∈ body, 0 ≤ x ∧ x ≤ 255) : ∀ x ∈ joined kind body, 0 ≤ x ∧ x ≤ 255 := by
  intro x hx
  unfold joined at hx
  split at hx
  · cases hx
  split at hx
  · cases hx
  split at hx
  · cases hx
  rw [head19_eq, List.mem_append, List.mem_append] at hx
  rcases hx with (hx | hx) | hx
  · rw [List.eq_of_mem_replicate hx]; omega
  · simp at hx; omega
  · exact h x hx
theorem joined_len (kind : Int) (body : List Int) : (joined kind body).length ≤ 4096 := by
  unfold joined
  split
  · simp
  split
  · simp
  split
  · simp
  · rw [List.length_append, head19_len]; omega

set_option maxRecDepth 100000 in
set_option maxHeartbeats 3200000 in
theorem FrameTells_walk (kind : Int) (A1 : Option Addr) (n1 c1 : Nat) (l1 : List Int) (A2 : Option Addr) (n2 c2 : Nat) (l2 : List Int) (pos tv : Int) (w : World)
    (h1 : Kd.C (Kd.int .u8) w A1 n1 l1) (e1 : n1 ≤ c1) (b1 : ∀ x ∈ l1, 0 ≤ x ∧ x ≤ 255) (h2 : Kd.C (Kd.int .u8) w A2 n2 l2) (e2 : n2 ≤ c2) (b2 : ∀ x ∈ l2, 0 ≤ x ∧ x ≤ 255) :
    Calls Try.prog 4 #[.int .i64 kind, .slice A1 n1 c1, .slice A2 n2 c2, .int .i64 pos, .int .u8 tv] w fun e w' => e = .returned (.bool true) ∧ Below w.heap.size w w' := by
  have HC1 := Aside0.mk h1
  have HC2 := Aside0.mk h2
  have HY1 := joined_bytes kind (l1.take 300) (fun x hx => b1 x (List.mem_of_mem_take hx))
  have HYL := joined_len kind (l1.take 300)
  have HB2 := Aside0.mk b2
  obtain ⟨Y, hY⟩ : ∃ Y, joined kind (l1.take 300) = Y := ⟨_, rfl⟩
  obtain ⟨E, hE⟩ : ∃ E, joinedErr kind (l1.take 300) = E := ⟨_, rfl⟩
  rw [hY] at HY1 HYL
  obtain ⟨Z, hZ⟩ : ∃ Z, Y ++ l2.take 100 = Z := ⟨_, rfl⟩
  obtain ⟨N, hN⟩ : ∃ N, Z.length = N := ⟨_, rfl⟩
  have hNb : N ≤ 4196 := by rw [← hN, ← hZ, List.length_append, List.length_take]; omega
  have HZB : Aside0 (∀ x ∈ Z, 0 ≤ x ∧ x ≤ 255) := ⟨by
    intro x hx
    rw [← hZ, List.mem_append] at hx
    rcases hx with hx | hx
    · exact HY1 x hx
    · exact b2 x (List.mem_of_mem_take hx)⟩
  have HYL := Aside0.mk HYL
  have HY := Aside0.mk hY
  have HE := Aside0.mk hE
  have HZ := Aside0.mk hZ
  have HN := Aside0.mk hN
  clear h1 h2 b1 b2 hY hE hZ hN HY1
  by_cases h0 : N = 0
  · subst h0
    go_enter Try.func4, Try.ntmps4
    go_wp2_with fail
    refine (cut_any A1 n1 c1 l1 300 300 rfl (by omega) _ HC1.out e1).mono ?_
    rintro e w1 ⟨k1, ka, kb, kc, rfl, hc1, rfl⟩
    have HK1 := Aside0.mk hc1
    clear hc1
    go_wp2_with (first
      | (go_at_call 8; refine (join_n kind A1 k1 c1 (l1.take 300) _ HK1.out (by omega)).mono ?_; rw [HY.out, HE.out]; rintro e w2 ⟨v2, rfl, hr2, hb2⟩; obtain ⟨A3, c3, rfl, _, hc3⟩ := Kd.R_reads hr2; have HB3 := Aside0.mk hb2; have HC3 := Aside0.mk hc3; clear hr2 hb2 hc3)
      | (go_at_call 9; refine (refJoin_any kind A1 k1 c1 (l1.take 300) _ (Kd.C_below HK1.out HB3.out) ka (by omega)).mono ?_; rw [HY.out, HE.out]; rintro e w4 ⟨v4, rfl, hr4, hb4⟩; obtain ⟨A4, c4, rfl, hl4, hc4⟩ := Kd.R_reads hr4; have HC3' := Aside0.mk (Kd.C_below HC3.out hb4); have s1 := Kd.C_string (P := Try.prog) (A := A3) (c := c3) Try.underlying23 Try.underlying5 Try.underlying9 HC3'.out; have s2 := Kd.C_string (P := Try.prog) (A := A4) (c := c4) Try.underlying23 Try.underlying5 Try.underlying9 hc4; have HR4 := Aside0.mk (Kd.R_lower hr4 (below_size HB3.out)); have HB4 := Aside0.mk (below_step HB3.out hb4); clear hr4 hb4 hc4)
      | (go_at_call 12; (with_reducible refine (cut_any A2 n2 c2 l2 300 300 rfl (by omega) _ (Kd.C_below HC2.out HB4.out) e2).mono ?_); rintro e w5 ⟨k5, kd, ke, kf, rfl, hc5, rfl⟩; have HC5 := Aside0.mk hc5; clear hc5)
      | (go_at_call 10; refine (split_true A2 k5 c2 (l2.take 300) _ HC5.out kd (fun x hx => HB2.out x (List.mem_of_mem_take hx)) (by omega)).mono ?_; rintro e w6 ⟨rfl, hb6⟩; have HR6 := Aside0.mk (Kd.R_below HR4.out hb6); have HB6 := Aside0.mk (below_step HB4.out hb6); clear hb6))
    refine (cut_any A2 n2 c2 l2 100 100 rfl (by omega) _ (Kd.C_below HC2.out HB6.out) e2).mono ?_
    rintro e w7 ⟨k7, kg, kh, ki, rfl, hc7, rfl⟩
    have HC7 := Aside0.mk hc7
    clear hc7 s1 s2
    go_wp2_with (first
      | ((with_reducible refine gate_builtin (b := .append) (xs := #[.tmp 45, .tmp 47]) rfl ?_); at_builtin; refine Kd.R_append_rows (Kd.int .u8) (w0 := w) w.heap.size rfl (.tmp 45) (.tmp 47) 23 5 (.int .u8 0) 1 rfl Try.underlying23 info5 rfl (by decide) (by omega) _ Y (l2.take 100) _ _ _ (fun _ => True) (fun _ => False) rfl rfl HR6.out HC7.out (fun _ _ h => h) (fun _ h => h.elim) (fun _ _ => trivial) HB6.out (below_size HB6.out) (by have := HYL.out; omega) ?_; rw [HZ.out]; intro v8 w8 ho hb hg_ hn_; clear hg_ hn_; obtain ⟨A8, c8, rfl, hl8, hc8⟩ := Kd.R_reads ho; rw [HN.out] at ho hl8 hc8; rw [HN.out]; have HR8 := Aside0.mk ho; have HB8 := Aside0.mk hb; have HC8 := Aside0.mk hc8; clear ho hb hc8)
      | (go_at_call 10; refine (split_true A8 0 c8 Z _ HC8.out hl8 HZB.out (by omega)).mono ?_; rintro e w9 ⟨rfl, hb9⟩; have HB9 := Aside0.mk (below_step HB8.out hb9); clear hb9)
      | (go_at_call 11; refine (known_any _).mono ?_; rintro e w10 ⟨rfl, hb10⟩; have HB10 := Aside0.mk (below_step HB9.out hb10); clear hb10))
    go_ret
    exact ⟨rfl, HB10.out⟩
  · have h0' : (0 : Int) < (N : Int) := by omega
    have h0'' : 0 < N := by omega
    go_enter Try.func4, Try.ntmps4
    go_wp2_with fail
    refine (cut_any A1 n1 c1 l1 300 300 rfl (by omega) _ HC1.out e1).mono ?_
    rintro e w1 ⟨k1, ka, kb, kc, rfl, hc1, rfl⟩
    have HK1 := Aside0.mk hc1
    clear hc1
    go_wp2_with (first
      | (go_at_call 8; refine (join_n kind A1 k1 c1 (l1.take 300) _ HK1.out (by omega)).mono ?_; rw [HY.out, HE.out]; rintro e w2 ⟨v2, rfl, hr2, hb2⟩; obtain ⟨A3, c3, rfl, _, hc3⟩ := Kd.R_reads hr2; have HB3 := Aside0.mk hb2; have HC3 := Aside0.mk hc3; clear hr2 hb2 hc3)
      | (go_at_call 9; refine (refJoin_any kind A1 k1 c1 (l1.take 300) _ (Kd.C_below HK1.out HB3.out) ka (by omega)).mono ?_; rw [HY.out, HE.out]; rintro e w4 ⟨v4, rfl, hr4, hb4⟩; obtain ⟨A4, c4, rfl, hl4, hc4⟩ := Kd.R_reads hr4; have HC3' := Aside0.mk (Kd.C_below HC3.out hb4); have s1 := Kd.C_string (P := Try.prog) (A := A3) (c := c3) Try.underlying23 Try.underlying5 Try.underlying9 HC3'.out; have s2 := Kd.C_string (P := Try.prog) (A := A4) (c := c4) Try.underlying23 Try.underlying5 Try.underlying9 hc4; have HR4 := Aside0.mk (Kd.R_lower hr4 (below_size HB3.out)); have HB4 := Aside0.mk (below_step HB3.out hb4); clear hr4 hb4 hc4)
      | (go_at_call 12; (with_reducible refine (cut_any A2 n2 c2 l2 300 300 rfl (by omega) _ (Kd.C_below HC2.out HB4.out) e2).mono ?_); rintro e w5 ⟨k5, kd, ke, kf, rfl, hc5, rfl⟩; have HC5 := Aside0.mk hc5; clear hc5)
      | (go_at_call 10; refine (split_true A2 k5 c2 (l2.take 300) _ HC5.out kd (fun x hx => HB2.out x (List.mem_of_mem_take hx)) (by omega)).mono ?_; rintro e w6 ⟨rfl, hb6⟩; have HR6 := Aside0.mk (Kd.R_below HR4.out hb6); have HB6 := Aside0.mk (below_step HB4.out hb6); clear hb6))
    refine (cut_any A2 n2 c2 l2 100 100 rfl (by omega) _ (Kd.C_below HC2.out HB6.out) e2).mono ?_
    rintro e w7 ⟨k7, kg, kh, ki, rfl, hc7, rfl⟩
    have HC7 := Aside0.mk hc7
    clear hc7 s1 s2
    go_wp2_with ((with_reducible refine gate_builtin (b := .append) (xs := #[.tmp 45, .tmp 47]) rfl ?_); at_builtin; refine Kd.R_append_rows (Kd.int .u8) (w0 := w) w.heap.size rfl (.tmp 45) (.tmp 47) 23 5 (.int .u8 0) 1 rfl Try.underlying23 info5 rfl (by decide) (by omega) _ Y (l2.take 100) _ _ _ (fun _ => True) (fun _ => False) rfl rfl HR6.out HC7.out (fun _ _ h => h) (fun _ h => h.elim) (fun _ _ => trivial) HB6.out (below_size HB6.out) (by have := HYL.out; omega) ?_; rw [HZ.out]; intro v8 w8 ho hb hg_ hn_; clear hg_ hn_; obtain ⟨A8, c8, rfl, hl8, hc8⟩ := Kd.R_reads ho; rw [HN.out] at ho hl8 hc8; rw [HN.out]; have HR8 := Aside0.mk ho; have HB8 := Aside0.mk hb; have HC8 := Aside0.mk hc8; clear ho hb hc8)
    go_wp2_with fail
    refine (within_any pos 0 ((N : Int) - 1) (by omega) (by omega) (by omega) _).mono ?_
    rintro e w9 ⟨r, r0, r1, rfl, rfl⟩
    obtain ⟨j, rfl⟩ := Int.eq_ofNat_of_zero_le r0
    obtain ⟨g, c9, hv, hl9, hg, hcell, hfz⟩ := R_cells HR8.out (by rw [HN.out]; exact h0'')
    rw [HN.out] at hv hcell
    injection hv with hA _ hc9
    subst hA hc9
    have q := hcell j (by omega)
    have qf := hfz j
    clear hcell hfz
    obtain ⟨x, hx⟩ : ∃ x, Z.getD j 0 = x := ⟨_, rfl⟩
    rw [hx] at q
    have hxor := xor_u8 x tv
    obtain ⟨u, hu⟩ : ∃ u, Go.bits .xor .u8 x tv = u := ⟨_, rfl⟩
    rw [hu] at hxor
    have hput := Kd.R_put (show Kd.R (Kd.int .u8) 5 w8 w.heap.size (fun _ => True) (.slice (some ⟨g, 0, none⟩) Z.length c8) Z by rw [HN.out]; exact HR8.out) (j : Int) u
    rw [Int.toNat_natCast, HN.out] at hput
    have HP : Aside0 (Kd.C (Kd.int .u8) (w8.setCell ⟨g, j, none⟩ (.int .u8 u)) (some ⟨g, 0, none⟩) N (Z.set j u)) := ⟨by
      have hn : (Z.set j u).length = N := by rw [List.length_set]; exact HN.out
      obtain ⟨A', c', hv', _, hc'⟩ := Kd.R_reads hput.1
      injection hv' with hA' _ _
      rw [hn, ← hA'] at hc'
      exact hc'⟩
    have HPB : Aside0 (∀ y ∈ Z.set j u, 0 ≤ y ∧ y ≤ 255) := ⟨fun y hy => by
      rcases List.mem_or_eq_of_mem_set hy with h | rfl
      · exact HZB.out y h
      · exact hxor⟩
    clear hput hx
    go_wp2_with (first
      | (go_at_call 10; refine (split_true (some ⟨g, 0, none⟩) N c8 (Z.set j u) _ HP.out hl8 HPB.out (by omega)).mono ?_; rintro e w9 ⟨rfl, hb9⟩; have HB9 := Aside0.mk (below_step (below_set HB8.out hg) hb9); clear hb9)
      | (go_at_call 11; refine (known_any _).mono ?_; rintro e w10 ⟨rfl, hb10⟩; have HB10 := Aside0.mk (below_step HB9.out hb10); clear hb10))
    go_ret
    exact ⟨rfl, HB10.out⟩

theorem FrameTells_row (a0 : Int) (a1 : Option Addr) (len1 cap1 : Nat) (z1 : List Int) (a2 : Option Addr) (len2 cap2 : Nat) (z2 : List Int) (a3 a4 : Int) {w : World} (_ : (Lit.int .i64 a0).wf = true) (w1 : IsRow .u8 w a1 len1 cap1 z1) (_ : len1 * 1 ≤ 140737488351232) (w2 : IsRow .u8 w a2 len2 cap2 z2) (_ : len2 * 1 ≤ 140737488351232) (_ : (Lit.int .i64 a3).wf = true) (_ : (Lit.int .u8 a4).wf = true) (W : World) (hW : W = w := by rfl) :
    Calls Try.prog 4 #[.int .i64 a0, .slice a1 len1 cap1, .slice a2 len2 cap2, .int .i64 a3, .int .u8 a4] W fun e w' => e = .returned (.bool true) ∧ Below W.heap.size W w' := by
  subst hW
  obtain ⟨h1, e1, b1⟩ := isRow_C w1
  obtain ⟨h2, e2, b2⟩ := isRow_C w2
  exact FrameTells_walk a0 a1 len1 cap1 _ a2 len2 cap2 _ a3 a4 W h1 e1 b1 h2 e2 b2
end Go.Proofs.Ytbjfkonkmgghfaa.Mine
