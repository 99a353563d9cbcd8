/- Walks of frame.Join, note and Split. -/
import Derived.Test.YtbjfkonkmgghfaaAFrame
namespace Go.Proofs.Ytbjfkonkmgghfaa.Mine
open Go.RowKit Go.Proofs.YtbjfkonkmgghfaaW.PrintWords Go.Proofs.YtbjfkonkmgghfaaW.PrintLast Go.Proofs.YtbjfkonkmgghfaaW.PrintMore
set_option linter.unusedVariables false
set_option linter.unusedSimpArgs false

def head19 (kind : Int) (n : Nat) : List Int := ones16 ++ bePart (19 + (n : Int)) 2 0 ++ bePart kind 1 0
theorem head19_len (kind : Int) (n : Nat) : (head19 kind n).length = 19 := by simp [head19, ones16, bePart_len]
def joined (kind : Int) (body : List Int) : List Int := if kind < 1 then [] else if 4 < kind then [] else if 4077 < body.length then [] else head19 kind body.length ++ body
def joinedErr (kind : Int) (body : List Int) : Int := if kind < 1 then 23 else if 4 < kind then 23 else if 4077 < body.length then 3 else 0

set_option maxHeartbeats 800000 in
theorem join_any (kind : Int) (A : Option Addr) (c : Nat) (body : List Int) (w0 w : World) (hB : Below w0.heap.size w0 w) (hc : Kd.C (Kd.int .u8) w0 A body.length body) (hl : body.length ≤ 140737488355328) :
    Calls Try.prog 8 #[.int .i64 kind, .slice A body.length c] w fun e w' => ∃ v : Value, e = .returned (.tuple #[v, .int .i64 (joinedErr kind body)]) ∧ Kd.R (Kd.int .u8) 5 w' w0.heap.size (fun _ => True) v (joined kind body) ∧ Below w0.heap.size w0 w' := by
  have HB := Aside0.mk hB
  have HC := Aside0.mk hc
  clear hB hc
  by_cases h1 : kind < 1
  · have e1 : joined kind body = [] := by simp [joined, h1]
    have e2 : joinedErr kind body = 23 := by simp [joinedErr, h1]
    rw [e1, e2]
    clear e1 e2
    go_enter Try.func8, Try.ntmps8
    go_wp2
    go_ret2
    exact ⟨_, rfl, Kd.R_nil _ _ _ _ _, HB.out⟩
  have h1' : decide (kind < 1) = false := by simpa using h1
  by_cases h2 : 4 < kind
  · have e1 : joined kind body = [] := by simp [joined, h2]
    have e2 : joinedErr kind body = 23 := by simp [joinedErr, h2]
    rw [e1, e2]
    clear e1 e2
    go_enter Try.func8, Try.ntmps8
    go_wp2
    go_ret2
    exact ⟨_, rfl, Kd.R_nil _ _ _ _ _, HB.out⟩
  have h2' : decide (4 < kind) = false := by simpa using h2
  by_cases h3 : 4077 < body.length
  · have e1 : joined kind body = [] := by simp [joined, h3]
    have e2 : joinedErr kind body = 3 := by simp [joinedErr, h1, h2, h3]
    rw [e1, e2]
    clear e1 e2
    have h3' : (4077 : Int) < body.length := by omega
    go_enter Try.func8, Try.ntmps8
    go_wp2
    go_ret2
    exact ⟨_, rfl, Kd.R_nil _ _ _ _ _, HB.out⟩
  · have e1 : joined kind body = head19 kind body.length ++ body := by simp [joined, h1, h2, h3]
    have e2 : joinedErr kind body = 0 := by simp [joinedErr, h1, h2, h3]
    rw [e1, e2]
    clear e1 e2
    have h3' : ¬ (4077 : Int) < body.length := by omega
    have k0 : 0 ≤ kind := by omega
    have k1 : kind ≤ 4 := by omega
    go_enter Try.func8, Try.ntmps8
    go_wp2_with (first
      | (go_at_call 16; refine (newWriter_any w0 _ HB.out).mono ?_; rintro e w1 ⟨g, rfl, hw1, hb1⟩; have HW1 := Aside0.mk hw1; have HB1 := Aside0.mk hb1; clear hw1 hb1)
      | (go_at_call 18; refine (marker_any w0 _ HB1.out).mono ?_; rintro e w2 ⟨A2, c2, rfl, hm2, hb2, hb3⟩; have HM2 := Aside0.mk hm2; have HW2 := Aside0.mk (wr_below HW1.out hb3); have HB2 := Aside0.mk hb2; clear hm2 hb2 hb3)
      | (go_at_call 19; refine (u16_any g _ (by omega) (by omega) _ w0 _ HB3.out HW3.out (by simp [ones16])).mono ?_; rintro e w4 ⟨rfl, hw4, hb4⟩; have HW4 := Aside0.mk hw4; have HB4 := Aside0.mk hb4; clear hw4 hb4)
      | (go_at_call 20; refine (u8_any g _ (by omega) (by omega) _ w0 _ HB4.out HW4.out (by simp [ones16, bePart_len])).mono ?_; rintro e w5 ⟨rfl, hw5, hb5⟩; have HW5 := Aside0.mk hw5; have HB5 := Aside0.mk hb5; clear hw5 hb5)
      | (go_at_call 17; (with_reducible refine (raw_any g A2 16 c2 [] ones16 w0 _ HB2.out HW2.out HM2.out (by simp)).mono ?_); rintro e w3 ⟨rfl, hw3, hb3⟩; have HW3 := Aside0.mk hw3; have HB3 := Aside0.mk hb3; clear hw3 hb3)
      | (go_at_call 17; refine (raw_any g A _ c _ body w0 _ HB5.out HW5.out (Kd.C_below HC.out HB5.out) (by simp [ones16, bePart_len]; omega)).mono ?_; rintro e w6 ⟨rfl, hw6, hb6⟩; have HW6 := Aside0.mk hw6; have HB6 := Aside0.mk hb6; clear hw6 hb6)
      | (go_at_call 21; refine (done_any g _ w0 _ HB6.out HW6.out (by simp [ones16, bePart_len]; omega)).mono ?_; rintro e w7 ⟨v7, rfl, hw7, hb7⟩; have HW7 := Aside0.mk hw7; have HB7 := Aside0.mk hb7; clear hw7 hb7))
    go_ret2
    exact ⟨v7, rfl, HW7.out, HB7.out⟩

theorem join_n (kind : Int) (A : Option Addr) (n c : Nat) (body : List Int) (w : World) (hc : Kd.C (Kd.int .u8) w A n body) (hl : n ≤ 140737488355328) :
    Calls Try.prog 8 #[.int .i64 kind, .slice A n c] w fun e w' => ∃ v : Value, e = .returned (.tuple #[v, .int .i64 (joinedErr kind body)]) ∧ Kd.R (Kd.int .u8) 5 w' w.heap.size (fun _ => True) v (joined kind body) ∧ Below w.heap.size w w' := by
  obtain rfl : body.length = n := hc.1
  exact join_any kind A c body w w (Below.refl _ _) hc hl
end Go.Proofs.Ytbjfkonkmgghfaa.Mine
