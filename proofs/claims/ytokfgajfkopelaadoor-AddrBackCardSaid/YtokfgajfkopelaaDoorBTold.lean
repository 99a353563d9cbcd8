/- A prefix is read from its text, and what is read is what is told. No program in sight. -/
import Derived.Test.YtokfgajfkopelaaDoorBSplit
namespace Go.Proofs.YtokfgajfkopelaaDoor.Mine
open Go.RowKit Go.Proofs.YtokfgajfkopelaaDoorW.PrintWords Go.Proofs.YtokfgajfkopelaaDoorW.PrintLast Go.Proofs.YtokfgajfkopelaaDoorW.PrintMore
set_option linter.unusedVariables false
set_option linter.unusedSimpArgs false

theorem ba_ext {a b : ByteArray} (h : a.data.toList = b.data.toList) : a = b := by
  apply ByteArray.ext
  exact Array.toList_inj.1 h
theorem dec_data (x : Int) : (decS x).data.toList = Lib.itoa x := rfl
theorem stepA_eq (a n : Int) (h0 : 0 ≤ a) (h1 : a < 16777216) (n0 : 0 ≤ n) (n1 : n ≤ 255) : stepA a n = a * 256 + n := by
  unfold stepA
  have e : bits .and .i64 n 255 = n := by
    have h := bits_mask .i64 63 (by decide) (fun x x0 x1 => wrap_small x x0 (by exact x1)) 8 (by decide) n n0 (by rw [show (2 : Int) ^ 63 = 9223372036854775808 by decide]; omega)
    rw [show ((2 : Int) ^ 8 - 1) = 255 by decide, show ((2 : Int) ^ 8) = 256 by decide] at h
    rw [h]
    omega
  rw [e, Int.emod_eq_of_lt (by omega) (by omega), Int.emod_eq_of_lt n0 (by omega)]
  exact bits_join .u32 32 (by decide) (fun x x0 x1 => by rw [IntKind.wrap_u32]; exact Int.emod_eq_of_lt x0 (by exact x1)) 8 (a * 256) n (by omega) (by rw [show ((2 : Int) ^ 8) = 256 by decide]; omega) (by show a * 256 < 4294967296; omega) n0 (by show n < 256; omega) (by show n < 4294967296; omega)
/-- The four numbers and the length, as a list. -/
theorem text_list (a n : Int) (h : rightB a n = true) : (textP a n).data.toList = (Lib.itoa (a / 2 ^ 24 % 256) ++ 46 :: (Lib.itoa (a / 2 ^ 16 % 256) ++ 46 :: (Lib.itoa (a / 2 ^ 8 % 256) ++ 46 :: Lib.itoa (a % 256)))) ++ 47 :: Lib.itoa n := by
  rw [textP_right a n h]
  simp [ByteArray.data_append, decS]
theorem splitB_four (h : ByteArray) (a b c d : ByteArray) (he : (Lib.splitB ⟨#[46]⟩ 0 (Lib.countB h ⟨#[46]⟩) h).map (·.data.toList) = [a.data.toList, b.data.toList, c.data.toList, d.data.toList]) : Lib.splitB ⟨#[46]⟩ 0 (Lib.countB h ⟨#[46]⟩) h = [a, b, c, d] := by
  generalize Lib.splitB ⟨#[46]⟩ 0 (Lib.countB h ⟨#[46]⟩) h = L at *
  match L with
  | [x, y, z, u] =>
    simp only [List.map_cons, List.map_nil, List.cons.injEq, and_true] at he
    rw [ba_ext he.1, ba_ext he.2.1, ba_ext he.2.2.1, ba_ext he.2.2.2]
  | [] => simp at he
  | [x] => simp at he
  | [x, y] => simp at he
  | [x, y, z] => simp at he
  | x :: y :: z :: u :: v :: r => simp at he
theorem parse_text (a n : Int) (h0 : 0 ≤ a) (h1 : a < 4294967296) (hr : rightB a n = true) : parseP (textP a n) = (a, n, true) := by
  obtain ⟨n0, n1, _⟩ := (right_iff a n).1 hr
  have b24 := (byte_top a h0 h1).2
  have b16 := (byte_of a 16 h0 h1).2
  have b8 := (byte_of a 8 h0 h1).2
  have b0 := (byte_low a h0 h1).2
  have hA : a = ((a / 2 ^ 24 % 256 * 256 + a / 2 ^ 16 % 256) * 256 + a / 2 ^ 8 % 256) * 256 + a % 256 := by
    clear b24 b16 b8 b0
    have e24 : (2 : Int) ^ 24 = 16777216 := by decide
    have e16 : (2 : Int) ^ 16 = 65536 := by decide
    have e8 : (2 : Int) ^ 8 = 256 := by decide
    rw [e24, e16, e8]
    omega
  have ht := text_list a n hr
  unfold parseP
  rw [ht]
  generalize a / 2 ^ 24 % 256 = x0 at *
  generalize a / 2 ^ 16 % 256 = x1 at *
  generalize a / 2 ^ 8 % 256 = x2 at *
  generalize a % 256 = x3 at *
  have m47 : (47 : UInt8) ∉ Lib.itoa x0 ++ 46 :: (Lib.itoa x1 ++ 46 :: (Lib.itoa x2 ++ 46 :: Lib.itoa x3)) := by
    have := dec_no 47 (.inr rfl) x0 b24.1 b24.2
    have := dec_no 47 (.inr rfl) x1 b16.1 b16.2
    have := dec_no 47 (.inr rfl) x2 b8.1 b8.2
    have := dec_no 47 (.inr rfl) x3 b0.1 b0.2
    simp [*]
  rw [cut_hit 47 _ _ m47]
  have hsp := split_eq ⟨(Lib.itoa x0 ++ 46 :: (Lib.itoa x1 ++ 46 :: (Lib.itoa x2 ++ 46 :: Lib.itoa x3))).toArray⟩ 46
  rw [splitC_app 46 _ _ (dec_no 46 (.inl rfl) x0 b24.1 b24.2), splitC_app 46 _ _ (dec_no 46 (.inl rfl) x1 b16.1 b16.2), splitC_app 46 _ _ (dec_no 46 (.inl rfl) x2 b8.1 b8.2), splitC_one 46 _ (dec_no 46 (.inl rfl) x3 b0.1 b0.2)] at hsp
  have hL := splitB_four _ (decS x0) (decS x1) (decS x2) (decS x3) hsp
  simp only
  rw [hL]
  have hn : numP ⟨(Lib.itoa n).toArray⟩ 32 = n := numP_dec32 n n0 n1
  rw [hn]
  simp only [List.all_cons, List.all_nil, List.foldl_cons, List.foldl_nil, List.length_cons, List.length_nil]
  rw [numP_dec255 x0 b24.1 b24.2, numP_dec255 x1 b16.1 b16.2, numP_dec255 x2 b8.1 b8.2, numP_dec255 x3 b0.1 b0.2]
  have hz : stepA (stepA (stepA (stepA 0 x0) x1) x2) x3 = a := by
    rw [stepA_eq 0 x0 (by omega) (by omega) b24.1 b24.2, stepA_eq _ x1 (by omega) (by omega) b16.1 b16.2, stepA_eq _ x2 (by omega) (by omega) b8.1 b8.2, stepA_eq _ x3 (by omega) (by omega) b0.1 b0.2]
    omega
  rw [hz]
  unfold parseEnd
  have hok : (true && (decide (0 ≤ x0) && (decide (0 ≤ x1) && (decide (0 ≤ x2) && (decide (0 ≤ x3) && true))))) = true := by
    simp
    omega
  rw [if_pos hok, if_pos rfl, if_pos hr]
theorem parseEnd_cases (ok : Bool) (l : Nat) (a n : Int) : parseEnd ok l a n = (0, 0, false) ∨ (ok = true ∧ l = 4 ∧ rightB a n = true ∧ parseEnd ok l a n = (a, n, true)) := by
  unfold parseEnd
  by_cases h1 : ok = true
  · rw [if_pos h1]
    by_cases h2 : l = 4
    · rw [if_pos h2]
      by_cases h3 : rightB a n = true
      · rw [if_pos h3]
        exact .inr ⟨h1, h2, h3, rfl⟩
      · rw [if_neg h3]
        exact .inl rfl
    · rw [if_neg h2]
      exact .inl rfl
  · rw [if_neg h1]
    exact .inl rfl
theorem parse_cases (s : ByteArray) : parseP s = (0, 0, false) ∨ ∃ a n, 0 ≤ a ∧ a < 4294967296 ∧ rightB a n = true ∧ parseP s = (a, n, true) ∧ textP a n = s := by
  unfold parseP
  rcases cut_c 47 s.data.toList with ⟨_, hm⟩ | ⟨p, q, hs, hp, _⟩
  · rw [cut_miss 47 _ hm]
    left
    rfl
  · have hc := cut_hit 47 p q hp
    rw [← hs] at hc
    rw [hc]
    simp only
    have hsp := split_eq ⟨p.toArray⟩ 46
    have hjoin := join_splitC 46 p
    have hd : (⟨p.toArray⟩ : ByteArray).data.toList = p := rfl
    rw [hd] at hsp
    rw [← hsp] at hjoin
    generalize Lib.splitB ⟨#[46]⟩ 0 (Lib.countB ⟨p.toArray⟩ ⟨#[46]⟩) ⟨p.toArray⟩ = L at *
    rcases parseEnd_cases (true && L.all (fun x => decide (0 ≤ numP x 255))) L.length (L.foldl (fun a x => stepA a (numP x 255)) 0) (numP ⟨q.toArray⟩ 32) with h | ⟨hok, h4, hr, he⟩
    · exact .inl h
    · right
      obtain ⟨n0, n1, _⟩ := (right_iff _ _).1 hr
      have hq := (numP_inv ⟨q.toArray⟩ 32 (by omega) (by omega) n0).2
      match L, h4 with
      | [x0, x1, x2, x3], _ =>
        simp only [List.all_cons, List.all_nil, Bool.true_and, Bool.and_true, Bool.and_eq_true, decide_eq_true_eq] at hok
        obtain ⟨k0, k1, k2, k3⟩ := hok
        obtain ⟨l0, e0⟩ := numP_inv x0 255 (by omega) (by omega) k0
        obtain ⟨l1, e1⟩ := numP_inv x1 255 (by omega) (by omega) k1
        obtain ⟨l2, e2⟩ := numP_inv x2 255 (by omega) (by omega) k2
        obtain ⟨l3, e3⟩ := numP_inv x3 255 (by omega) (by omega) k3
        have hz : [x0, x1, x2, x3].foldl (fun a x => stepA a (numP x 255)) 0 = ((numP x0 255 * 256 + numP x1 255) * 256 + numP x2 255) * 256 + numP x3 255 := by
          simp only [List.foldl_cons, List.foldl_nil]
          rw [stepA_eq 0 _ (by omega) (by omega) k0 l0, stepA_eq _ _ (by omega) (by omega) k1 l1, stepA_eq _ _ (by omega) (by omega) k2 l2, stepA_eq _ _ (by omega) (by omega) k3 l3]
          omega
        rw [hz] at he hr ⊢
        refine ⟨_, _, by omega, by omega, hr, he, ?_⟩
        apply ba_ext
        rw [text_list _ _ hr]
        have e24 : (2 : Int) ^ 24 = 16777216 := by decide
        have e16 : (2 : Int) ^ 16 = 65536 := by decide
        have e8 : (2 : Int) ^ 8 = 256 := by decide
        rw [e24, e16, e8]
        have g0 : (((numP x0 255 * 256 + numP x1 255) * 256 + numP x2 255) * 256 + numP x3 255) / 16777216 % 256 = numP x0 255 := by omega
        have g1 : (((numP x0 255 * 256 + numP x1 255) * 256 + numP x2 255) * 256 + numP x3 255) / 65536 % 256 = numP x1 255 := by omega
        have g2 : (((numP x0 255 * 256 + numP x1 255) * 256 + numP x2 255) * 256 + numP x3 255) / 256 % 256 = numP x2 255 := by omega
        have g3 : (((numP x0 255 * 256 + numP x1 255) * 256 + numP x2 255) * 256 + numP x3 255) % 256 = numP x3 255 := by omega
        rw [g0, g1, g2, g3, ← dec_data, ← dec_data, ← dec_data, ← dec_data, ← dec_data, ← e0, ← e1, ← e2, ← e3, ← hq, hs]
        rw [← hjoin]
        rfl
end Go.Proofs.YtokfgajfkopelaaDoor.Mine
