/- The walk of the law FrameBack. -/
import Derived.Test.YtbjfkonkmgghfaaABackLib
namespace Go.Proofs.Ytbjfkonkmgghfaa.Mine
open Go.RowKit Go.Proofs.YtbjfkonkmgghfaaW.PrintWords Go.Proofs.YtbjfkonkmgghfaaW.PrintLast Go.Proofs.YtbjfkonkmgghfaaW.PrintMore
set_option linter.unusedVariables false
set_option linter.unusedSimpArgs false

/-- A header of a row, as a value. -/
def hdr (p : Nat × Nat × Nat) : Value := .slice (some ⟨p.1, 0, none⟩) p.2.1 p.2.2
theorem hdr_one (p : Nat × Nat × Nat) : (hdr p).oneCell' = true := rfl
theorem infoSl : (Try.prog.info? 23).map (fun i => (i.zero, i.size, i.bytes)) = some (some (.slice none 0 0), 1, 24) := by kernel_rfl
/-- What stands behind a header. -/
def Held (w : World) (base : Nat) (p : Nat × Nat × Nat) (xs : List Int) : Prop :=
  p.2.1 = xs.length ∧ p.2.1 ≤ p.2.2 ∧ Kd.R (Kd.int .u8) 5 w base (fun q => q = p.1) (hdr p) xs
theorem Held.of_R {w : World} {base b0 : Nat} {v : Value} {xs : List Int} (h : Kd.R (Kd.int .u8) 5 w base (fun _ => True) v xs) (h0 : 0 < xs.length) (hb : b0 ≤ base) :
    ∃ g m c, v = .slice (some ⟨g, 0, none⟩) m c ∧ base ≤ g ∧ m = xs.length ∧ Held w b0 (g, m, c) xs := by
  obtain ⟨g, c, rfl, hl, hg, _, _⟩ := R_cells h h0
  refine ⟨g, xs.length, c, rfl, hg, rfl, rfl, hl, ?_⟩
  refine Kd.R_lower (w := w) (base := base) ⟨fun k hk => ?_, h.2⟩ hb
  injection hk with hk
  exact hk.symm
theorem Held.below {w w1 : World} {base : Nat} {p : Nat × Nat × Nat} {xs : List Int} (h : Held w base p xs) (hb : Below w.heap.size w w1) : Held w1 base p xs := ⟨h.1, h.2.1, Kd.R_below h.2.2 hb⟩
theorem Held.grown {w w1 : World} {base : Nat} {p : Nat × Nat × Nat} {xs : List Int} (h : Held w base p xs) {row : Option Nat} (hg : w.grownBy w1 row) (hr : some p.1 ≠ row) : Held w1 base p xs :=
  ⟨h.1, h.2.1, Kd.R_grown h.2.2 hg (fun k hk => by rw [hk]; exact hr)⟩
theorem Held.lt {w : World} {base : Nat} {p : Nat × Nat × Nat} {xs : List Int} (h : Held w base p xs) : p.1 < w.heap.size := own_lt (Kd.own_of_R h.2.2) p.1 rfl
theorem Held.C {w : World} {base : Nat} {p : Nat × Nat × Nat} {xs : List Int} (h : Held w base p xs) : Kd.C (Kd.int .u8) w (some ⟨p.1, 0, none⟩) p.2.1 xs := by
  obtain ⟨A, c, hv, _, hc⟩ := Kd.R_reads h.2.2
  injection hv with hA hn _
  rw [← hA, ← hn] at hc
  exact hc
/-- All that was wanted so far. -/
def Wants (w : World) (base : Nat) (l : Nat → List Int) (hs : List (Nat × Nat × Nat)) : Prop := ∀ j, j < hs.length → Held w base (hs.getD j (0, 0, 0)) (bB l j)
theorem Wants.below {w w1 : World} {base : Nat} {l : Nat → List Int} {hs : List (Nat × Nat × Nat)} (h : Wants w base l hs) (hb : Below w.heap.size w w1) : Wants w1 base l hs := fun j hj => (h j hj).below hb
theorem Wants.grown {w w1 : World} {base : Nat} {l : Nat → List Int} {hs : List (Nat × Nat × Nat)} (h : Wants w base l hs) {row : Option Nat} (hg : w.grownBy w1 row) (hr : ∀ p ∈ hs, some p.1 ≠ row) : Wants w1 base l hs := fun j hj => (h j hj).grown hg (hr _ (by rw [List.getD_eq_getElem?_getD, List.getElem?_eq_getElem hj]; exact List.getElem_mem hj))
theorem Wants.lt {w : World} {base : Nat} {l : Nat → List Int} {hs : List (Nat × Nat × Nat)} (h : Wants w base l hs) : ∀ p ∈ hs, p.1 < w.heap.size := by
  intro p hp
  obtain ⟨j, hj, rfl⟩ := List.getElem_of_mem hp
  have := (h j hj).lt
  rwa [List.getD_eq_getElem?_getD, List.getElem?_eq_getElem hj] at this
theorem Wants.snoc {w : World} {base : Nat} {l : Nat → List Int} {hs : List (Nat × Nat × Nat)} (h : Wants w base l hs) {p : Nat × Nat × Nat} {k : Nat} (hk : hs.length = k) (hp : Held w base p (bB l k)) : Wants w base l (hs ++ [p]) := by
  intro j hj
  rw [List.length_append, List.length_singleton] at hj
  by_cases hjk : j < hs.length
  · have := h j hjk
    rwa [List.getD_eq_getElem?_getD, List.getElem?_append_left hjk, ← List.getD_eq_getElem?_getD]
  · obtain rfl : j = k := by omega
    subst hk
    rw [List.getD_eq_getElem?_getD, List.getElem?_append_right (Nat.le_refl _), Nat.sub_self]
    exact hp

theorem R_ok_snoc {α : Type} {d : Kd α} {e base : Nat} {w : World} {v : Value} {xs : List α} {hs : List (Nat × Nat × Nat)} (h : Kd.R d e w base (fun q => ∀ p ∈ hs, q ≠ p.1) v xs) (p0 : Nat × Nat × Nat) (hg : w.heap.size ≤ p0.1) :
    Kd.R d e w base (fun q => ∀ p ∈ hs ++ [p0], q ≠ p.1) v xs := by
  refine Kd.R_mono (Kd.R_bound h) (fun q hq p hp => ?_)
  rcases List.mem_append.1 hp with hp | hp
  · exact hq.1 p hp
  · rw [List.mem_singleton.1 hp]
    have := hq.2.2.1
    omega
theorem lit_hdr {e : Nat} (X : World) (g : Nat) (hg : X.heap.size = g) (p : Nat × Nat × Nat) : Kd.C (Kd.scalar hdr hdr_one) (X.alloc (.cells #[hdr p] e)) (some ⟨g, 0, none⟩) 1 [p] := by
  subst hg
  refine Kd.C_of_reads (d := p) ⟨rfl, by decide, fun _ => ⟨_, rfl, fun j hj => ?_⟩⟩
  obtain rfl : j = 0 := by omega
  rw [add_plain, blk_cell (blk_new X _) 0]
  rfl
theorem hdrCells {w : World} {A : Option Addr} {n : Nat} {l : List (Nat × Nat × Nat)} (h : Kd.C (Kd.scalar hdr hdr_one) w A n l) (hn : 0 < n) : ∃ b o, A = some ⟨b, o, none⟩ ∧ ∀ j, j < n → w.cell? ⟨b, o + j, none⟩ = some (hdr (l.getD j (0, 0, 0))) := by
  obtain ⟨⟨b, o, sp⟩, rfl, hc⟩ := (Kd.reads_of_C (d := ((0, 0, 0) : Nat × Nat × Nat)) h).2.2 hn
  have h0 := hc 0 hn
  cases sp with
  | none =>
    refine ⟨b, o, rfl, fun j hj => ?_⟩
    have := hc j hj
    unfold Addr.add at this
    split at this
    · simp_all
    · exact this
  | some s => simp [Addr.add, World.cell?] at h0; split at h0 <;> cases h0
theorem Wants.apart {w w1 : World} {base : Nat} {l : Nat → List Int} {hs : List (Nat × Nat × Nat)} (h : Wants w base l hs) {e' : Nat} {u : Value} (hty : ∀ k, u.ownBlock = some k → ∃ cells, w.heap[k]? = some (.cells cells e' (0, 0))) (hne : 5 ≠ e') (hg : w.grownBy w1 u.ownBlock) : Wants w1 base l hs := by
  intro j hj
  refine (h j hj).grown hg (fun he => ?_)
  obtain ⟨cells, hc⟩ := hty _ he.symm
  obtain ⟨cells', hc'⟩ := Kd.R_typed (h j hj).2.2 _ rfl
  rw [hc'] at hc
  injection hc with hc
  injection hc with _ hc
  exact hne hc

set_option maxRecDepth 100000 in
set_option maxHeartbeats 3200000 in
theorem FrameBack_walk (A0 : Option Addr) (n0 c0 : Nat) (cut : Int) (Ar : Nat → Option Addr) (nr cr : Nat → Nat) (l : Nat → List Int) (w : World)
    (hrow : ∀ r, r < n0 → ∃ pb po, A0 = some ⟨pb, po, none⟩ ∧ w.cell? ⟨pb, po + r, none⟩ = some (.slice (Ar r) (nr r) (cr r)) ∧ nr r ≤ cr r ∧ Kd.C (Kd.int .u8) w (Ar r) (nr r) (l r)) (hbyte : ∀ r, r < n0 → ∀ x ∈ l r, 0 ≤ x ∧ x ≤ 255) :
    Calls Try.prog 5 #[.slice A0 n0 c0, .int .i64 cut] w fun e w' => e = .returned (.bool true) ∧ Below w.heap.size w w' := by
  have HROW := Aside0.mk hrow
  have HBYTE := Aside0.mk hbyte
  clear hrow hbyte
  have hu := Try.underlying36
  go_enter Try.func5, Try.ntmps5
  go_wp2
  go_loopw [5, 6, 7] (fun v5 v6 v7 wr => ∃ k : Nat, k ≤ n0 ∧ k ≤ 10 ∧ v7 = .int .i64 k ∧ ∃ hs : List (Nat × Nat × Nat), hs.length = k ∧ Aside0 (Below w.heap.size w wr) ∧ Aside0 (Wants wr w.heap.size l hs) ∧
    Aside0 (Kd.R (Kd.int .u8) 5 wr w.heap.size (fun q => ∀ p ∈ hs, q ≠ p.1) v5 (bAll l k)) ∧ Aside0 (Kd.R (Kd.scalar hdr hdr_one) 23 wr w.heap.size (fun _ => True) v6 hs)) (fun _ _ v7 _ => 10 - (intOf v7).toNat)
  case atStart => exact ⟨0, by omega, by omega, rfl, [], rfl, ⟨Below.refl _ _⟩, ⟨fun j hj => absurd hj (Nat.not_lt_zero _)⟩, ⟨Kd.R_nil _ _ _ _ _⟩, ⟨Kd.R_nil _ _ _ _ _⟩⟩
  case round =>
    obtain ⟨k, hkn, hk10, rfl, hs, hsl, HB, HW, HR5, HR6⟩ := hrel
    by_cases hcc : k < 10 ∧ k < n0
    · obtain ⟨h10, hn⟩ := hcc
      · have hn' : (k : Int) < n0 := by omega
        have h10' : (k : Int) < 10 := by omega
        obtain ⟨pb, po, rfl, hcell, hnc, hC⟩ := HROW.out k hn
        have q0 := pw_cell_below HB.out hcell
        have q := fun o => pw_cell_below (below_alloc (Below.refl _ _) o) q0
        clear q0
        have HC := Aside0.mk (Kd.C_below hC HB.out)
        obtain ⟨A5, n5, c5, rfl⟩ := R_form HR5.out
        obtain ⟨A6, n6, c6, rfl⟩ := R_form HR6.out
        have hlk := Aside0.mk (HBYTE.out k hn)
        clear hcell hC
        go_wp2_with (first
          | (go_at_call 12; (with_reducible refine (cut_any (Ar k) (nr k) (cr k) (l k) 200 200 rfl (by omega) _ (Kd.C_alloc HC.out _) hnc).mono ?_); rintro e w5 ⟨k5, kd, ke, kf, rfl, hc5, rfl⟩; have HC5 := Aside0.mk hc5; clear hc5)
          | ((with_reducible refine gate_builtin (b := .append) (xs := #[.tmp 31, .tmp 36]) rfl ?_); at_builtin; refine Kd.R_append_rows (Kd.int .u8) (w0 := wr) wr.heap.size rfl (.tmp 31) (.tmp 36) 23 5 (.int .u8 0) 1 rfl Try.underlying23 info5 rfl (by decide) (by omega) _ lead ((l k).take 200) _ _ _ (fun _ => True) (fun _ => False) rfl rfl (Kd.R_of_own (own_lit wr wr.heap.size 5 .u8 lead (Nat.le_refl _) (by decide)) (fun _ _ => trivial)) HC5.out (fun _ _ h => h) (fun _ h => h.elim) (fun _ _ => trivial) (below_alloc (Below.refl _ _) _) (by simp) (by rw [show lead.length = 10 from rfl]; omega) ?_; intro v8 w8 ho hb hg_ hn_; clear hg_ hn_; obtain ⟨g8, m8, c8, rfl, hg8, hm8, hp8⟩ := Held.of_R (b0 := w.heap.size) (show Kd.R (Kd.int .u8) 5 w8 wr.heap.size (fun _ => True) v8 (bB l k) from ho) (by have := (bB_len l k).1; omega) (below_size HB.out); have HP8 := Aside0.mk hp8; have HX8 := Aside0.mk hb; have hm8b : 10 ≤ m8 ∧ m8 ≤ 210 := (by rw [hm8]; exact bB_len l k); have HM8 := Aside0.mk hm8; clear ho hb hp8 hm8)
          | (go_at_call 8; (with_reducible refine (join_n (1 + (k : Int) % 3) (some ⟨g8, 0, none⟩) m8 c8 (bB l k) _ HP8.out.C (by omega)).mono ?_); rw [(bM_eq l k).1]; rintro e w9 ⟨v9, rfl, hr9, hb9⟩; obtain ⟨A9, c9, rfl, _, hc9⟩ := Kd.R_reads hr9; have hn9 : (joined (1 + (k : Int) % 3) (bB l k)).length = m8 + 19 := (bM_len l k).trans (by rw [HM8.out]); rw [hn9] at hc9; rw [hn9]; have HC9 := Aside0.mk (show Kd.C (Kd.int .u8) w9 A9 (m8 + 19) (bM l k) from hc9); have HP9 := Aside0.mk (HP8.out.below hb9); have HX9 := Aside0.mk (below_step HX8.out hb9); clear hr9 hb9 hc9 hn9)
          | ((with_reducible refine gate_builtin (b := .append) (xs := #[.tmp 56, .tmp 57]) rfl ?_); at_builtin; have HR5' := Aside0.mk (Kd.R_below (R_ok_snoc HR5.out (g8, m8, c8) hg8) HX9.out); have HW9 := Aside0.mk ((HW.out.below HX9.out).snoc hsl HP9.out); refine Kd.R_append_rows (Kd.int .u8) (w0 := w) w.heap.size rfl (.tmp 56) (.tmp 57) 23 5 (.int .u8 0) 1 rfl Try.underlying23 info5 rfl (by decide) (by omega) _ (bAll l k) (bM l k) _ _ _ (fun q => ∀ p ∈ hs ++ [(g8, m8, c8)], q ≠ p.1) (fun _ => False) rfl rfl HR5'.out HC9.out (fun _ _ h => h) (fun _ h => h.elim) (fun q hq p hp he => by have := HW9.out.lt p hp; omega) (below_step HB.out HX9.out) (by have := below_size HB.out; have := below_size HX9.out; omega) (by have := bAll_len l k; omega) ?_; rw [← bAll_succ]; intro v10 w10 ho hb hg_ hn_; clear hn_; have HW10 := Aside0.mk (HW9.out.grown hg_ (fun p hp he => (HR5'.out.1 p.1 he.symm) p hp rfl)); have HR6' := Aside0.mk (Kd.R_over' (Kd.R_below HR6.out HX9.out) (Kd.R_typed HR5'.out) (by decide) hg_); obtain ⟨A10, n10, c10, rfl⟩ := R_form ho; have HR10 := Aside0.mk ho; have HB10 := Aside0.mk hb; clear ho hb hg_)
          | ((with_reducible refine gate_builtin (b := .append) (xs := #[.tmp 59, .tmp 61]) rfl ?_); at_builtin; go_loud (have HR6a := Aside0.mk (Kd.R_alloc HR6'.out (.cells #[hdr (g8, m8, c8)] 23)); refine Kd.R_append_rows (Kd.scalar hdr hdr_one) (w0 := w) w.heap.size rfl (.tmp 59) (.tmp 61) 34 23 (.slice none 0 0) 24 rfl Try.underlying34 infoSl rfl (by decide) (by omega) _ hs [(g8, m8, c8)] _ _ _ (fun _ => True) (fun _ => False) rfl rfl HR6a.out (lit_hdr w10 w10.heap.size rfl (g8, m8, c8)) (fun _ _ h => h) (fun _ h => h.elim) (fun _ _ => trivial) (below_alloc HB10.out _) (by have := below_size HB10.out; simp; omega) (by rw [hsl]; omega) ?_; intro v11 w11 ho hb hg_ hn_; clear hn_; have HW11 := Aside0.mk ((HW10.out.below (below_alloc (Below.refl _ _) _)).apart (Kd.R_typed HR6a.out) (by decide) hg_); have HR11 := Aside0.mk (Kd.R_over' (Kd.R_alloc HR10.out _) (Kd.R_typed HR6a.out) (by decide) hg_); obtain ⟨A11, n11, c11, rfl⟩ := R_form ho; have HR12 := Aside0.mk ho; have HB11 := Aside0.mk hb; clear ho hb hg_)))
        go_roundw
        case rel => exact ⟨k + 1, by omega, by omega, by go_num, hs ++ [(g8, m8, c8)], by rw [List.length_append, hsl]; rfl, HB11, HW11, HR11, HR12⟩
        case measure => simp [intOf]; omega
    · have hst : (¬ (k : Int) < n0) ∨ ((k : Int) < n0 ∧ ¬ (k : Int) < 10) := by omega
      obtain ⟨A5, n5, c5, rfl⟩ := R_form HR5.out
      obtain ⟨A6, n6, c6, rfl⟩ := R_form HR6.out
      obtain ⟨hn5, hc5, hC5⟩ := Kd.R_reads' HR5.out
      obtain ⟨hn6, hc6, hC6⟩ := Kd.R_reads' HR6.out
      rw [← hn5] at hC5
      rw [← hn6] at hC6
      have hn6k : n6 = k := by rw [hn6, hsl]
      clear hn6
      subst hn6k
      have HC5 := Aside0.mk (show Kd.C (Kd.int .u8) wr A5 n5 (bRest l n6 0) by rw [bRest_zero]; exact hC5)
      have HC6 := Aside0.mk hC6
      have HN6 := Aside0.mk hsl
      have HBY := Aside0.mk (bRest_bytes (l := l) (K := n6) (fun j hj => HBYTE.out j (by omega)))
      clear hn5 hC5 hC6 hsl HR5 HR6
      rcases hst with hx | ⟨hx, hy⟩
      · go_wp2
        go_loopw [11, 12] (fun v11 v12 wr => ∃ i : Nat, i ≤ n6 ∧ v12 = .int .i64 i ∧ ∃ A n c, v11 = .slice A n c ∧ n ≤ c ∧ Aside0 (Kd.C (Kd.int .u8) wr A n (bRest l n6 i)) ∧ Aside0 (Below w.heap.size w wr) ∧ Aside0 (Wants wr w.heap.size l hs) ∧ Aside0 (Kd.C (Kd.scalar hdr hdr_one) wr A6 n6 hs)) (fun _ v12 _ => n6 - (intOf v12).toNat)
        case atStart => exact ⟨0, by omega, rfl, _, _, _, rfl, hc5, HC5, HB, HW, HC6⟩
        case round =>
          clear HB HW HC5 HC6
          obtain ⟨i, hi, rfl, A, n, c, rfl, hnc, HC, HB, HW, HC6⟩ := hrel
          by_cases hlt : i < n6
          · have hlt' : (i : Int) < n6 := by omega
            obtain ⟨b6, o6, rfl, hcell⟩ := hdrCells HC6.out (by omega)
            have q := hcell i hlt
            have hp := HW.out i (by rw [HN6.out]; exact hlt)
            obtain ⟨⟨g, m, c8⟩, hgm⟩ : ∃ p, hs.getD i (0, 0, 0) = p := ⟨_, rfl⟩
            rw [hgm] at q hp
            simp only [hdr] at q
            have HP := Aside0.mk hp
            have hm : 10 ≤ m ∧ m ≤ 210 := by rw [show m = (bB l i).length from hp.1]; exact bB_len l i
            have HM := Aside0.mk (show m = (bB l i).length from hp.1)
            clear hp hgm hcell
            have hstep := bRest_step l n6 i hlt
            have hnl : m + 19 ≤ n ∧ n ≤ 229 * n6 := by
              have h1 := HC.out.1
              have h2 := bRest_len l n6 i
              rw [hstep, List.length_append, bM_len, ← HM.out] at h1
              rw [hstep, List.length_append, bM_len, ← HM.out] at h2
              omega
            have HS2 : Aside0 (splitF (bRest l n6 i) = (1 + (i : Int) % 3, bB l i, 19 + (m : Int), 0, 0, [])) := ⟨by rw [hstep, split_msg, HM.out]⟩
            have HS1 : Aside0 (∀ t, t ≤ m + 18 → splitF ((bRest l n6 i).take t) = (0, [], 0, 0, 0, [])) := ⟨fun t ht => by rw [hstep]; exact split_msg_part l i _ t (by rw [← HM.out]; exact ht)⟩
            have HSTEP := Aside0.mk hstep
            clear hstep
            go_wp2_with fail
            refine (within_any cut 0 ((m : Int) + 18) (by omega) (by omega) (by omega) _).mono ?_
            rintro e w1 ⟨r, r0, r1, rfl, rfl⟩
            obtain ⟨t, rfl⟩ := Int.eq_ofNat_of_zero_le r0
            have HCT : Aside0 (Kd.C (Kd.int .u8) wr A t ((bRest l n6 i).take t)) := ⟨(cutH (P := Try.prog) (d := Kd.int .u8) 23 5 Try.underlying23 sz5 A n c (bRest l n6 i) (t : Int) t rfl (by omega) hnc).2 _ HC.out⟩
            have HS1t := Aside0.mk (HS1.out t (by omega))
            have HBT := Aside0.mk (fun x hx => HBY.out i x (List.mem_of_mem_take (i := t) hx))
            go_wp2_with fail
            refine (split_any A t c ((bRest l n6 i).take t) _ HCT.out (by omega) HBT.out (by omega)).mono ?_
            rw [HS1t.out]
            rintro e w2 ⟨v2, v5, rfl, hr2, hr5, hb2⟩
            obtain ⟨A2, c2, rfl⟩ := Kd.R_slice hr2
            obtain ⟨A3, c3, rfl⟩ := Kd.R_slice hr5
            have HX2 := Aside0.mk hb2
            clear hr2 hr5 hb2
            go_wp2_with fail
            have HXA := Aside0.mk (below_alloc HX2.out (.cells #[.int .i64 0, .int .i64 0, .slice A3 0 c3] 36))
            refine (split_any A n c (bRest l n6 i) _ (Kd.C_below HC.out HXA.out) hnc (HBY.out i) (by omega)).mono ?_
            rw [HS2.out]
            rintro e w3 ⟨v3, v6, rfl, hr3, hr6, hb3⟩
            obtain ⟨A7, c7, rfl, hl7, hc7⟩ := Kd.R_reads hr3
            obtain ⟨A8, c9, rfl⟩ := Kd.R_slice hr6
            rw [← HM.out] at hr3
            rw [← HM.out]
            have HBK := Aside0.mk (blk_below (blk_new w2 (.cells #[.int .i64 0, .int .i64 0, .slice A3 0 c3] 36)) hb3)
            have q0 := blk_cell HBK.out 0
            have q1 := blk_cell HBK.out 1
            have q2 := blk_cell HBK.out 2
            have qf := blk_frozen HBK.out
            simp at q0 q1 q2
            have HX3 := Aside0.mk (below_step HXA.out hb3)
            have HR3 := Aside0.mk hr3
            have hg2 := Aside0.mk (below_size HX2.out)
            clear hr3 hr6 hb3 hl7 hc7
            go_upto_region 21 with fail
            have HXW : Below wr.heap.size wr (((w3.setCell ⟨w2.heap.size, 0, none⟩ (.int .i64 0)).setCell ⟨w2.heap.size, 1, none⟩ (.int .i64 0)).setCell ⟨w2.heap.size, 2, none⟩ (.slice A8 0 c9)) := below_set (below_set (below_set HX3.out hg2.out) hg2.out) hg2.out
            have HKW := blk_set (blk_set (blk_set HBK.out 0 (.int .i64 0)) 1 (.int .i64 0)) 2 (.slice A8 0 c9)
            have HRW := Kd.R_set (Kd.R_set (Kd.R_set HR3.out HBK.out (by decide) 0 (.int .i64 0)) (blk_set HBK.out 0 _) (by decide) 1 (.int .i64 0)) (blk_set (blk_set HBK.out 0 _) 1 _) (by decide) 2 (.slice A8 0 c9)
            obtain ⟨W4, hW4⟩ : ∃ W4, ((w3.setCell ⟨w2.heap.size, 0, none⟩ (.int .i64 0)).setCell ⟨w2.heap.size, 1, none⟩ (.int .i64 0)).setCell ⟨w2.heap.size, 2, none⟩ (.slice A8 0 c9) = W4 := ⟨_, rfl⟩
            rw [hW4] at HXW HKW HRW ⊢
            have HXW := Aside0.mk HXW
            clear hW4 q0 q1 q2 qf HBK
            have q := pw_cell_below HXW.out q
            have q4 := blk_cell HKW 0
            simp at q4
            have hC7 := (Kd.R_reads' HRW).2.2
            rw [← HM.out] at hC7
            have s1 := fun nd => Kd.C_string (P := Try.prog) (A := A7) (c := c7) Try.underlying23 Try.underlying5 Try.underlying9 (Kd.C_drewN hC7 nd)
            have s2 := fun nd => Kd.C_string (P := Try.prog) (A := some ⟨g, 0, none⟩) (c := c8) Try.underlying23 Try.underlying5 Try.underlying9 (Kd.C_drewN (HP.out.below HXW.out).C nd)
            have HN := Aside0.mk hnl
            have e1 := wrap_i64 ((i : Int) % 3) (by omega) (by omega)
            have e2 := wrap_i64 (1 + (i : Int) % 3) (by omega) (by omega)
            have e3 := wrap_i64 ((m : Int) + 19) (by omega) (by omega)
            have e4 : ((19 : Int) + (m : Int) != (m : Int) + 19) = false := by rw [Int.add_comm 19]; exact bne_self_eq_false _
            clear hC7 HRW HKW hnl
            have e0 : (i : Int).tmod 3 = (i : Int) % 3 := Int.tmod_eq_emod_of_nonneg (by omega)
            go_quiet (fail)
            clear e0 e1 e2 e3 e4 s1 s2 q q4
            obtain ⟨A', hcutL, hCL⟩ := cutL (P := Try.prog) (d := Kd.int .u8) 23 5 Try.underlying23 sz5 A n c (bRest l n6 i) ((19 : Int) + (m : Int)) (19 + m) (by omega) (by have := HN.out; omega) hnc
            have HCL := Aside0.mk hCL
            clear hCL
            go_wp2
            go_roundw
            case rel =>
              have hB4 := pw_below_drewN HXW.out nq
              have hcl := HCL.out _ (Kd.C_below HC.out hB4)
              have hd : (bRest l n6 i).drop (19 + m) = bRest l n6 (i + 1) := by
                rw [HSTEP.out, show 19 + m = (bM l i).length from by rw [bM_len, ← HM.out]; omega, List.drop_left]
              rw [hd] at hcl
              exact ⟨i + 1, by omega, by go_num, _, _, _, rfl, by omega, ⟨hcl⟩, ⟨below_step HB.out hB4⟩, ⟨HW.out.below hB4⟩, ⟨Kd.C_below HC6.out hB4⟩⟩
            case measure => simp [intOf]; omega
          · obtain rfl : i = n6 := by omega
            have hge : ¬ (i : Int) < i := by omega
            have h0 : n = 0 := by
              have h1 := HC.out.1
              rw [bRest_end] at h1
              exact h1.symm
            subst h0
            go_wp2_with fail
            refine (known_any _).mono ?_
            rintro e w4 ⟨rfl, hb4⟩
            have HB4 := Aside0.mk (below_step HB.out hb4)
            clear hb4
            go_wp2
            go_ret
            exact ⟨rfl, HB4.out⟩
      · go_wp2
        go_loopw [11, 12] (fun v11 v12 wr => ∃ i : Nat, i ≤ n6 ∧ v12 = .int .i64 i ∧ ∃ A n c, v11 = .slice A n c ∧ n ≤ c ∧ Aside0 (Kd.C (Kd.int .u8) wr A n (bRest l n6 i)) ∧ Aside0 (Below w.heap.size w wr) ∧ Aside0 (Wants wr w.heap.size l hs) ∧ Aside0 (Kd.C (Kd.scalar hdr hdr_one) wr A6 n6 hs)) (fun _ v12 _ => n6 - (intOf v12).toNat)
        case atStart => exact ⟨0, by omega, rfl, _, _, _, rfl, hc5, HC5, HB, HW, HC6⟩
        case round =>
          clear HB HW HC5 HC6
          obtain ⟨i, hi, rfl, A, n, c, rfl, hnc, HC, HB, HW, HC6⟩ := hrel
          by_cases hlt : i < n6
          · have hlt' : (i : Int) < n6 := by omega
            obtain ⟨b6, o6, rfl, hcell⟩ := hdrCells HC6.out (by omega)
            have q := hcell i hlt
            have hp := HW.out i (by rw [HN6.out]; exact hlt)
            obtain ⟨⟨g, m, c8⟩, hgm⟩ : ∃ p, hs.getD i (0, 0, 0) = p := ⟨_, rfl⟩
            rw [hgm] at q hp
            simp only [hdr] at q
            have HP := Aside0.mk hp
            have hm : 10 ≤ m ∧ m ≤ 210 := by rw [show m = (bB l i).length from hp.1]; exact bB_len l i
            have HM := Aside0.mk (show m = (bB l i).length from hp.1)
            clear hp hgm hcell
            have hstep := bRest_step l n6 i hlt
            have hnl : m + 19 ≤ n ∧ n ≤ 229 * n6 := by
              have h1 := HC.out.1
              have h2 := bRest_len l n6 i
              rw [hstep, List.length_append, bM_len, ← HM.out] at h1
              rw [hstep, List.length_append, bM_len, ← HM.out] at h2
              omega
            have HS2 : Aside0 (splitF (bRest l n6 i) = (1 + (i : Int) % 3, bB l i, 19 + (m : Int), 0, 0, [])) := ⟨by rw [hstep, split_msg, HM.out]⟩
            have HS1 : Aside0 (∀ t, t ≤ m + 18 → splitF ((bRest l n6 i).take t) = (0, [], 0, 0, 0, [])) := ⟨fun t ht => by rw [hstep]; exact split_msg_part l i _ t (by rw [← HM.out]; exact ht)⟩
            have HSTEP := Aside0.mk hstep
            clear hstep
            go_wp2_with fail
            refine (within_any cut 0 ((m : Int) + 18) (by omega) (by omega) (by omega) _).mono ?_
            rintro e w1 ⟨r, r0, r1, rfl, rfl⟩
            obtain ⟨t, rfl⟩ := Int.eq_ofNat_of_zero_le r0
            have HCT : Aside0 (Kd.C (Kd.int .u8) wr A t ((bRest l n6 i).take t)) := ⟨(cutH (P := Try.prog) (d := Kd.int .u8) 23 5 Try.underlying23 sz5 A n c (bRest l n6 i) (t : Int) t rfl (by omega) hnc).2 _ HC.out⟩
            have HS1t := Aside0.mk (HS1.out t (by omega))
            have HBT := Aside0.mk (fun x hx => HBY.out i x (List.mem_of_mem_take (i := t) hx))
            go_wp2_with fail
            refine (split_any A t c ((bRest l n6 i).take t) _ HCT.out (by omega) HBT.out (by omega)).mono ?_
            rw [HS1t.out]
            rintro e w2 ⟨v2, v5, rfl, hr2, hr5, hb2⟩
            obtain ⟨A2, c2, rfl⟩ := Kd.R_slice hr2
            obtain ⟨A3, c3, rfl⟩ := Kd.R_slice hr5
            have HX2 := Aside0.mk hb2
            clear hr2 hr5 hb2
            go_wp2_with fail
            have HXA := Aside0.mk (below_alloc HX2.out (.cells #[.int .i64 0, .int .i64 0, .slice A3 0 c3] 36))
            refine (split_any A n c (bRest l n6 i) _ (Kd.C_below HC.out HXA.out) hnc (HBY.out i) (by omega)).mono ?_
            rw [HS2.out]
            rintro e w3 ⟨v3, v6, rfl, hr3, hr6, hb3⟩
            obtain ⟨A7, c7, rfl, hl7, hc7⟩ := Kd.R_reads hr3
            obtain ⟨A8, c9, rfl⟩ := Kd.R_slice hr6
            rw [← HM.out] at hr3
            rw [← HM.out]
            have HBK := Aside0.mk (blk_below (blk_new w2 (.cells #[.int .i64 0, .int .i64 0, .slice A3 0 c3] 36)) hb3)
            have q0 := blk_cell HBK.out 0
            have q1 := blk_cell HBK.out 1
            have q2 := blk_cell HBK.out 2
            have qf := blk_frozen HBK.out
            simp at q0 q1 q2
            have HX3 := Aside0.mk (below_step HXA.out hb3)
            have HR3 := Aside0.mk hr3
            have hg2 := Aside0.mk (below_size HX2.out)
            clear hr3 hr6 hb3 hl7 hc7
            go_upto_region 21 with fail
            have HXW : Below wr.heap.size wr (((w3.setCell ⟨w2.heap.size, 0, none⟩ (.int .i64 0)).setCell ⟨w2.heap.size, 1, none⟩ (.int .i64 0)).setCell ⟨w2.heap.size, 2, none⟩ (.slice A8 0 c9)) := below_set (below_set (below_set HX3.out hg2.out) hg2.out) hg2.out
            have HKW := blk_set (blk_set (blk_set HBK.out 0 (.int .i64 0)) 1 (.int .i64 0)) 2 (.slice A8 0 c9)
            have HRW := Kd.R_set (Kd.R_set (Kd.R_set HR3.out HBK.out (by decide) 0 (.int .i64 0)) (blk_set HBK.out 0 _) (by decide) 1 (.int .i64 0)) (blk_set (blk_set HBK.out 0 _) 1 _) (by decide) 2 (.slice A8 0 c9)
            obtain ⟨W4, hW4⟩ : ∃ W4, ((w3.setCell ⟨w2.heap.size, 0, none⟩ (.int .i64 0)).setCell ⟨w2.heap.size, 1, none⟩ (.int .i64 0)).setCell ⟨w2.heap.size, 2, none⟩ (.slice A8 0 c9) = W4 := ⟨_, rfl⟩
            rw [hW4] at HXW HKW HRW ⊢
            have HXW := Aside0.mk HXW
            clear hW4 q0 q1 q2 qf HBK
            have q := pw_cell_below HXW.out q
            have q4 := blk_cell HKW 0
            simp at q4
            have hC7 := (Kd.R_reads' HRW).2.2
            rw [← HM.out] at hC7
            have s1 := fun nd => Kd.C_string (P := Try.prog) (A := A7) (c := c7) Try.underlying23 Try.underlying5 Try.underlying9 (Kd.C_drewN hC7 nd)
            have s2 := fun nd => Kd.C_string (P := Try.prog) (A := some ⟨g, 0, none⟩) (c := c8) Try.underlying23 Try.underlying5 Try.underlying9 (Kd.C_drewN (HP.out.below HXW.out).C nd)
            have HN := Aside0.mk hnl
            have e1 := wrap_i64 ((i : Int) % 3) (by omega) (by omega)
            have e2 := wrap_i64 (1 + (i : Int) % 3) (by omega) (by omega)
            have e3 := wrap_i64 ((m : Int) + 19) (by omega) (by omega)
            have e4 : ((19 : Int) + (m : Int) != (m : Int) + 19) = false := by rw [Int.add_comm 19]; exact bne_self_eq_false _
            clear hC7 HRW HKW hnl
            have e0 : (i : Int).tmod 3 = (i : Int) % 3 := Int.tmod_eq_emod_of_nonneg (by omega)
            go_quiet (fail)
            clear e0 e1 e2 e3 e4 s1 s2 q q4
            obtain ⟨A', hcutL, hCL⟩ := cutL (P := Try.prog) (d := Kd.int .u8) 23 5 Try.underlying23 sz5 A n c (bRest l n6 i) ((19 : Int) + (m : Int)) (19 + m) (by omega) (by have := HN.out; omega) hnc
            have HCL := Aside0.mk hCL
            clear hCL
            go_wp2
            go_roundw
            case rel =>
              have hB4 := pw_below_drewN HXW.out nq
              have hcl := HCL.out _ (Kd.C_below HC.out hB4)
              have hd : (bRest l n6 i).drop (19 + m) = bRest l n6 (i + 1) := by
                rw [HSTEP.out, show 19 + m = (bM l i).length from by rw [bM_len, ← HM.out]; omega, List.drop_left]
              rw [hd] at hcl
              exact ⟨i + 1, by omega, by go_num, _, _, _, rfl, by omega, ⟨hcl⟩, ⟨below_step HB.out hB4⟩, ⟨HW.out.below hB4⟩, ⟨Kd.C_below HC6.out hB4⟩⟩
            case measure => simp [intOf]; omega
          · obtain rfl : i = n6 := by omega
            have hge : ¬ (i : Int) < i := by omega
            have h0 : n = 0 := by
              have h1 := HC.out.1
              rw [bRest_end] at h1
              exact h1.symm
            subst h0
            go_wp2_with fail
            refine (known_any _).mono ?_
            rintro e w4 ⟨rfl, hb4⟩
            have HB4 := Aside0.mk (below_step HB.out hb4)
            clear hb4
            go_wp2
            go_ret
            exact ⟨rfl, HB4.out⟩

/-- A slice of slices of numbers that came in. -/
def IsMat (k : IntKind) (w : World) (a : Option Addr) (len cap : Nat) : Prop :=
  (a = none ∧ len = 0 ∧ cap = 0) ∨ ∃ (x : Addr) (A : Nat → Option Addr) (L C : Nat → Nat) (Z : Nat → List Int), a = some x ∧ len ≤ cap ∧ cap ≤ maxLen ∧
    ∀ r, r < cap → w.cell? (x.add r) = some (.slice (A r) (L r) (C r)) ∧ L r ≤ C r ∧ C r ≤ maxLen ∧ (Z r).length = C r ∧ (∀ n ∈ Z r, (Lit.int k n).wf = true) ∧ (A r = none → C r = 0) ∧ ∀ a', A r = some a' → ∀ c, c < C r → w.cell? (a'.add c) = some (.int k ((Z r).getD c 0))

theorem IsMat.rows {w : World} {a : Option Addr} {len cap : Nat} (h : IsMat .u8 w a len cap) : ∃ (Ar : Nat → Option Addr) (nr cr : Nat → Nat) (l : Nat → List Int),
    (∀ r, r < len → ∃ pb po, a = some ⟨pb, po, none⟩ ∧ w.cell? ⟨pb, po + r, none⟩ = some (.slice (Ar r) (nr r) (cr r)) ∧ nr r ≤ cr r ∧ Kd.C (Kd.int .u8) w (Ar r) (nr r) (l r)) ∧ ∀ r, r < len → ∀ x ∈ l r, 0 ≤ x ∧ x ≤ 255 := by
  rcases h with ⟨rfl, rfl, rfl⟩ | ⟨x, A, L, C, Z, rfl, hl, hm, hr⟩
  · exact ⟨fun _ => none, fun _ => 0, fun _ => 0, fun _ => [], fun r hr => absurd hr (Nat.not_lt_zero _), fun r hr => absurd hr (Nat.not_lt_zero _)⟩
  · have hmx : (maxLen : Nat) = 9223372036854775807 := rfl
    have key : ∀ r, r < len → Kd.C (Kd.int .u8) w (A r) (L r) ((Z r).take (L r)) := by
      intro r hrl
      obtain ⟨hc, h1, h2, h3, h4, h5, h6⟩ := hr r (by omega)
      refine Kd.C_of_reads (d := (0 : Int)) (h1 := fun _ => rfl) ⟨by rw [List.length_take]; omega, by omega, fun h0 => ?_⟩
      cases ha : A r with
      | none => have := h5 ha; omega
      | some a' =>
        refine ⟨a', rfl, fun j hj => ?_⟩
        rw [h6 a' ha j (by omega)]
        simp [List.getD, List.getElem?_take, hj]
    refine ⟨A, L, C, fun r => (Z r).take (L r), fun r hrl => ?_, fun r hrl y hy => ?_⟩
    · obtain ⟨hc, h1, h2, h3, h4, h5, h6⟩ := hr r (by omega)
      have h0 := (hr 0 (by omega)).1
      obtain ⟨b, o, sp⟩ := x
      cases sp with
      | none =>
        refine ⟨b, o, rfl, ?_, h1, key r hrl⟩
        unfold Addr.add at hc
        split at hc
        · simp_all
        · exact hc
      | some s => simp [Addr.add, World.cell?] at h0; split at h0 <;> cases h0
    · obtain ⟨hc, h1, h2, h3, h4, h5, h6⟩ := hr r (by omega)
      exact wf_u8 (h4 y (List.mem_of_mem_take hy))

theorem FrameBack_row (a0 : Option Addr) (len0 cap0 : Nat) (a1 : Int) {w : World} (m0 : IsMat .u8 w a0 len0 cap0) (_ : (Lit.int .i64 a1).wf = true) (W : World) (hW : W = w := by rfl) :
    Calls Try.prog 5 #[.slice a0 len0 cap0, .int .i64 a1] W fun e w' => e = .returned (.bool true) ∧ Below W.heap.size W w' := by
  subst hW
  obtain ⟨Ar, nr, cr, l, h1, h2⟩ := m0.rows
  exact FrameBack_walk a0 len0 cap0 a1 Ar nr cr l W h1 h2
end Go.Proofs.Ytbjfkonkmgghfaa.Mine
