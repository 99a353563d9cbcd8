/- The walk of addr.Text. -/
import Derived.Test.YtokfgajfkopelaaDoorBMeet
import Derived.Test.YtokfgajfkopelaaDoorBEnv
import Derived.Lib.AppendIntMem
namespace Go.Proofs.YtokfgajfkopelaaDoor.Mine
open Go.RowKit Go.Proofs.YtokfgajfkopelaaDoorW.PrintWords Go.Proofs.YtokfgajfkopelaaDoorW.PrintLast Go.Proofs.YtokfgajfkopelaaDoorW.PrintMore
set_option linter.unusedVariables false
set_option linter.unusedSimpArgs false

theorem right_any (a n : Int) (h0 : 0 ≤ a) (h1 : a < 4294967296) (w : World) : Calls Tryd.prog 14 #[.agg #[.int .u32 a, .int .i64 n]] w fun e w' => e = .returned (.bool (rightB a n)) ∧ Below w.heap.size w w' :=
  BP.addr_Right.calls a n _ w (right_f a n h0 h1)

theorem R_form {α : Type} {d : Kd α} {e : Nat} {w : World} {base : Nat} {ok : Nat → Prop} {v : Value} {xs : List α} (h : d.R e w base ok v xs) : ∃ A n c, v = .slice A n c := by
  obtain ⟨A, c, rfl⟩ := Kd.R_slice h
  exact ⟨_, _, _, rfl⟩
/-- A number's text. -/
def decS (n : Int) : ByteArray := ⟨(Lib.itoa n).toArray⟩
theorem itoa_any (x : Int) (h0 : 0 ≤ x) (h1 : x ≤ 4294967295) (w : World) (henv : Env w) : Calls Tryd.prog 33 #[.int .i64 x] w fun e w' => e = .returned (.string (decS x)) ∧ Below w.heap.size w w' := by
  refine (Tryd.strconv_Itoa x (by omega) (by omega) w henv.2).mono ?_
  rintro e w' ⟨rfl, k, os, rfl⟩
  exact ⟨rfl, Lib.below_grow _ _ (Nat.le_refl _) _ _⟩
theorem join4 (g c : Nat) (xs : List ByteArray) (hx : xs.length = 4) (w : World) (h : Kd.C Kd.string w (some ⟨g, 0, none⟩) 4 xs) (hc : 4 ≤ c) (hl : (Lib.join (xs.map (·.data.toList)) [46]).length ≤ 140737488355328) (J : ByteArray) (hJ : J = ⟨(Lib.join (xs.map (·.data.toList)) [46]).toArray⟩) :
    Calls Tryd.prog 34 #[.slice (some ⟨g, 0, none⟩) 4 c, .string ⟨#[46]⟩] w fun e w' => e = .returned (.string J) ∧ Below w.heap.size w w' := by
  subst hJ
  have hr := (Kd.reads_of_C (d := (⟨#[]⟩ : ByteArray)) h).2.2 (by omega)
  obtain ⟨ad, ha, hcell⟩ := hr
  injection ha with ha
  subst ha
  have h4 := Tryd.strings_Join g 0 c xs ⟨#[46]⟩ w (fun j x hj => by
    obtain ⟨hl, hp⟩ := List.getElem?_eq_some_iff.1 hj
    have := hcell j (by omega)
    rw [add_plain] at this
    rw [Nat.zero_add, this, List.getD_eq_getElem?_getD, hj]
    rfl) (by
      have := hcell 0 (by omega)
      exact World.block_lt_of_cell? w _ this) (by omega) (by omega) hl
  rw [hx] at h4
  exact h4
theorem infoStr : (Tryd.prog.info? 9).map (fun i => (i.zero, i.size, i.bytes)) = some (some (.string ⟨#[]⟩), 1, 16) := by kernel_rfl
theorem lit_str {e : Nat} (X : World) (g : Nat) (hg : X.heap.size = g) (p : ByteArray) : Kd.C Kd.string (X.alloc (.cells #[.string p] e)) (some ⟨g, 0, none⟩) 1 [p] := by
  subst hg
  refine Kd.C_of_reads (d := p) ⟨rfl, by decide, fun _ => ⟨_, rfl, fun j hj => ?_⟩⟩
  obtain rfl : j = 0 := by omega
  rw [add_plain, blk_cell (blk_new X _) 0]
  rfl
theorem byte_of (a : Int) (j : Nat) (h0 : 0 ≤ a) (h1 : a < 4294967296) : wrap64 (bits .and .u32 (a / 2 ^ j) 255) = a / 2 ^ j % 256 ∧ 0 ≤ a / 2 ^ j % 256 ∧ a / 2 ^ j % 256 ≤ 255 := by
  have hp : (0 : Int) < 2 ^ j := Int.pow_pos (by decide)
  have e0 : 0 ≤ a / 2 ^ j := Int.ediv_nonneg h0 (Int.le_of_lt hp)
  have e1 : a / 2 ^ j ≤ a := Int.ediv_le_self _ h0
  generalize a / 2 ^ j = y at *
  have h := bits_mask .u32 32 (by decide) (fun x x0 x1 => by rw [IntKind.wrap_u32]; exact Int.emod_eq_of_lt x0 (by exact x1)) 8 (by decide) y e0 (by show y < 4294967296; omega)
  rw [show ((2 : Int) ^ 8 - 1) = 255 by decide, show ((2 : Int) ^ 8) = 256 by decide] at h
  rw [h, wrap64_id _ (by omega) (by omega)]
  omega
/-- The four numbers of an address. -/
def partsOf (a : Int) (k : Nat) : List ByteArray := (List.range k).map fun j => decS (a / 2 ^ (8 * (3 - j)) % 256)
theorem dec_short (x : Int) (h0 : 0 ≤ x) (h1 : x ≤ 255) : (decS x).data.toList.length ≤ 3 := by
  have h : ∀ j, j < 256 → (decS ((j : Nat) : Int)).data.toList.length ≤ 3 := by decide +kernel
  obtain ⟨j, rfl⟩ := Int.eq_ofNat_of_zero_le h0
  exact h j (by omega)
theorem parts_len (a : Int) (k : Nat) : (partsOf a k).length = k := by unfold partsOf; rw [List.length_map, List.length_range]
theorem join_short (a : Int) (h0 : 0 ≤ a) (h1 : a < 4294967296) : (Lib.join ((partsOf a 4).map (·.data.toList)) [46]).length ≤ 15 := by
  have b := fun j => byte_of a j h0 h1
  have e : partsOf a 4 = [decS (a / 2 ^ 24 % 256), decS (a / 2 ^ 16 % 256), decS (a / 2 ^ 8 % 256), decS (a / 2 ^ 0 % 256)] := rfl
  have d0 := dec_short _ (b 24).2.1 (b 24).2.2
  have d1 := dec_short _ (b 16).2.1 (b 16).2.2
  have d2 := dec_short _ (b 8).2.1 (b 8).2.2
  have d3 := dec_short _ (b 0).2.1 (b 0).2.2
  rw [e]
  generalize decS (a / 2 ^ 24 % 256) = s0 at *
  generalize decS (a / 2 ^ 16 % 256) = s1 at *
  generalize decS (a / 2 ^ 8 % 256) = s2 at *
  generalize decS (a / 2 ^ 0 % 256) = s3 at *
  simp only [List.map_cons, List.map_nil, Lib.join, List.intercalate, List.intersperse, List.flatten_cons, List.flatten_nil, List.length_append, List.length_cons, List.length_nil] at *
  omega
def textP (a n : Int) : ByteArray := if rightB a n = true then (⟨(Lib.join ((partsOf a 4).map (·.data.toList)) [46]).toArray⟩ ++ ⟨#[47]⟩) ++ decS n else ⟨#[]⟩

set_option maxRecDepth 100000 in
set_option maxHeartbeats 3200000 in
theorem text_any (a n : Int) (h0 : 0 ≤ a) (h1 : a < 4294967296) (w : World) (henv : Env w) : Calls Tryd.prog 13 #[.agg #[.int .u32 a, .int .i64 n]] w fun e w' => e = .returned (.string (textP a n)) ∧ Below w.heap.size w w' := by
  have hu := Tryd.underlying24
  have HE := Aside0.mk henv
  clear henv
  by_cases hr : rightB a n = true
  · have HR := Aside0.mk hr
    clear hr
    go_enter Tryd.func13, Tryd.ntmps13
    go_wp2_with fail
    refine (right_any a n h0 h1 _).mono ?_
    rw [HR.out]
    rintro e w1 ⟨rfl, hb1⟩
    have HBK := Aside0.mk (blk_below (blk_new w (.cells #[.int .u32 a, .int .i64 n] 24)) hb1)
    have HB1 := Aside0.mk (below_step (below_alloc (Below.refl _ _) _) hb1)
    clear hb1
    have HE1 := Aside0.mk (HE.out.below HB1.out)
    go_wp2
    go_loopw [3, 8] (fun v3 v8 wr => ∃ k : Nat, k ≤ 4 ∧ v8 = .int .i64 k ∧ Aside0 (Below w.heap.size w wr) ∧ Aside0 (Env wr) ∧ Aside0 (wr.heap[w.heap.size]? = some (.cells #[.int .u32 a, .int .i64 n] 24 (0, 0))) ∧ Aside0 (Kd.R Kd.string 9 wr w.heap.size (fun _ => True) v3 (partsOf a k))) (fun _ v8 _ => 4 - (intOf v8).toNat)
    case atStart => exact ⟨0, by omega, rfl, HB1, HE1, HBK, ⟨Kd.R_nil _ _ _ _ _⟩⟩
    case round =>
      clear HB1 HE1 HBK
      obtain ⟨k, hk, rfl, HB, HEr, HBK, HL⟩ := hrel
      have q0 := blk_cell HBK.out 0
      have q1 := blk_cell HBK.out 1
      simp at q0 q1
      obtain ⟨A3, n3, c3, rfl⟩ := R_form HL.out
      by_cases hlt : k < 4
      · have hlt' : (k : Int) < 4 := by omega
        have hby := byte_of a (8 * (3 - k)) h0 h1
        obtain ⟨x, hx⟩ : ∃ x, a / 2 ^ (8 * (3 - k)) % 256 = x := ⟨_, rfl⟩
        rw [hx] at hby
        have HBY := Aside0.mk hby.1
        have x0 := hby.2.1
        have x1 := hby.2.2
        have hpart : Aside0 (partsOf a k ++ [decS x] = partsOf a (k + 1)) := ⟨by unfold partsOf; rw [List.range_succ, List.map_append, ← hx]; rfl⟩
        have hpl : (partsOf a k).length = k := by unfold partsOf; rw [List.length_map, List.length_range]
        have HPL := Aside0.mk hpl
        clear hby hx hpl
        go_wp2_with fail
        rw [HBY.out]
        refine (itoa_any x x0 (by omega) _ HEr.out).mono ?_
        rintro e w2 ⟨rfl, hb2⟩
        have HL2 := Aside0.mk (Kd.R_below HL.out hb2)
        have HB2 := Aside0.mk (below_step HB.out hb2)
        have HE2 := Aside0.mk (HEr.out.below hb2)
        have HBK2 := Aside0.mk (blk_below HBK.out hb2)
        clear hb2 q0 q1
        go_wp2_with ((with_reducible refine gate_builtin (b := .append) (xs := #[.tmp 11, .tmp 21]) rfl ?_); at_builtin; go_loud (have HLa := Aside0.mk (Kd.R_alloc HL2.out (.cells #[.string (decS x)] 9)); have HBKa := Aside0.mk (blk_below HBK2.out (below_alloc (Below.refl _ _) (.cells #[.string (decS x)] 9))); refine Kd.R_append_rows Kd.string (w0 := w) w.heap.size rfl (.tmp 11) (.tmp 21) 44 9 (.string ⟨#[]⟩) 16 rfl Tryd.underlying44 infoStr rfl (by decide) (by omega) _ (partsOf a k) [decS x] _ _ _ (fun _ => True) (fun _ => False) rfl rfl HLa.out (lit_str w2 w2.heap.size rfl (decS x)) (fun _ _ h => h) (fun _ h => h.elim) (fun _ _ => trivial) (below_alloc HB2.out _) (by have := below_size HB2.out; simp; omega) (by rw [HPL.out]; omega) ?_; rw [hpart.out]; intro v3 w3 ho hb hg_ hn_; clear hn_; have HBK3 := Aside0.mk (blk_grown HBKa.out hg_ (Kd.R_ne HLa.out HBKa.out (by decide))); have HE3 := Aside0.mk ((HE.out.below hb)); obtain ⟨A4, n4, c4, rfl⟩ := R_form ho; have HL3 := Aside0.mk ho; have HB3 := Aside0.mk hb; clear ho hb hg_))
        go_roundw
        case rel => exact ⟨k + 1, by omega, by go_num, HB3, HE3, HBK3, HL3⟩
        case measure => simp [intOf]; omega
      · obtain rfl : k = 4 := by omega
        have hge : ¬ (4 : Int) < 4 := by omega
        obtain ⟨hn3, hc3, hC3⟩ := Kd.R_reads' HL.out
        rw [parts_len] at hn3 hC3
        subst hn3
        obtain ⟨g, rfl⟩ : ∃ g, A3 = some ⟨g, 0, none⟩ := by
          obtain ⟨_, inner, ho, _⟩ := HL.out
          rcases ho.2 with ⟨hh, h0⟩ | ⟨g, cap, cur, hh, _⟩
          · injection hh with hh1 hh2 hh3
            omega
          · injection hh with hh1
            exact ⟨g, hh1⟩
        have HC3 := Aside0.mk hC3
        have HJL := Aside0.mk (join_short a h0 h1)
        have hnr := (right_iff a n).1 HR.out
        clear hC3
        obtain ⟨J, hJ⟩ : ∃ J : ByteArray, J = ⟨(Lib.join ((partsOf a 4).map (·.data.toList)) [46]).toArray⟩ := ⟨_, rfl⟩
        have hs1 : J.size ≤ 15 := by
          rw [hJ]
          show (Lib.join ((partsOf a 4).map (·.data.toList)) [46]).toArray.size ≤ 15
          rw [List.size_toArray]
          exact HJL.out
        have HJ := Aside0.mk hJ
        clear hJ
        have hs2 : (decS n).size ≤ 3 := dec_short n hnr.1 (by omega)
        obtain ⟨D, hD⟩ : ∃ D, decS n = D := ⟨_, rfl⟩
        rw [hD] at hs2
        have HD := Aside0.mk hD
        have z1 : (⟨#[47]⟩ : ByteArray).size = 1 := rfl
        have n1 : ¬ (J.size + (⟨#[47]⟩ : ByteArray).size > 9223372036854775807) := by omega
        have n2 : ¬ ((J ++ ⟨#[47]⟩).size + D.size > 9223372036854775807) := by rw [ByteArray.size_append]; omega
        have HT : Aside0 (textP a n = (J ++ ⟨#[47]⟩) ++ D) := ⟨by unfold textP; rw [if_pos HR.out, ← HJ.out, HD.out]⟩
        clear hD z1
        go_upto_region 9 with fail
        clear q0
        have Q1 := Aside0.mk q1
        go_region_with (first
          | (go_at_call 34; refine (join4 g c3 (partsOf a 4) (parts_len a 4) _ (Kd.C_below HC3.out (by repeat (first | exact HX2.out | exact Below.refl _ _ | apply pw_below_drewN | apply below_drew))) hc3 (by have := HJL.out; omega) J HJ.out).mono ?_; rintro e w2 ⟨rfl, hb2⟩; have HX1 := Aside0.mk (below_step (w := wr) (by repeat (first | exact HX2.out | exact Below.refl _ _ | apply pw_below_drewN | apply below_drew)) hb2); have q1 := pw_cell_below HX1.out Q1.out; clear hb2)
          | (go_at_call 33; go_loud (refine (itoa_any n hnr.1 (by omega) _ (HEr.out.below (by repeat (first | exact HX1.out | exact Below.refl _ _ | apply pw_below_drewN | apply below_drew)))).mono ?_; rw [HD.out]; rintro e w3 ⟨rfl, hb3⟩; have HX2 := Aside0.mk (below_step (w := wr) (by repeat (first | exact HX1.out | exact Below.refl _ _ | apply pw_below_drewN | apply below_drew)) hb3); have q1 := pw_cell_below HX2.out Q1.out; clear hb3)))
        all_goals go_wp2
        all_goals go_ret
        all_goals exact ⟨by rw [HT.out]; rfl, below_step HB.out (by repeat (first | exact HX1.out | exact HX2.out | apply pw_below_drewN | apply below_drew))⟩
  · have hf : rightB a n = false := by simpa using hr
    go_enter Tryd.func13, Tryd.ntmps13
    go_wp2_with fail
    refine (right_any a n h0 h1 _).mono ?_
    rw [hf]
    rintro e w1 ⟨rfl, hb1⟩
    have HB1 := Aside0.mk (below_step (below_alloc (Below.refl _ _) _) hb1)
    clear hb1
    go_wp2
    go_ret
    exact ⟨by unfold textP; rw [hf]; rfl, HB1.out⟩
end Go.Proofs.YtokfgajfkopelaaDoor.Mine
