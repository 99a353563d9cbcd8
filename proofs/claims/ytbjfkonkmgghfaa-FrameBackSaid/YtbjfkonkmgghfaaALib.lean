/- Words of mine that every text of this seat uses: Writers, rows that are read, small facts. -/
import Derived.Test.YtbjfkonkmgghfaaProg
import Derived.Below
import Derived.Deep.Draws
import Derived.Deep.AppendLies
import Derived.Maps.AppendAt
import Derived.OwnWalk
import Derived.Laws.BytesArg
import Derived.Laws.MakeOwn
import Derived.Laws.OwnMore
import Derived.Deep.OwnRows
import Derived.Tactics
import Derived.Lib.ConvBytes
import Derived.Laws.Slices
import Derived.WalkKit
import Derived.KernelRfl
import Derived.RowKit3
import Derived.Deep.LoopGhost
import Derived.Deep.QuietTactic
import Derived.BigQuiet
import Derived.WideLaws
import Derived.Deep.DeepCutAuto
import Derived.Deep.CutBlock
import Derived.Deep.RegionHeld3
import Derived.Laws.Rows
import Derived.Lib.AppendStr
import Derived.ArgAppend
import Derived.Laws.IdiomCopy
import Derived.OrdersHeld
import Derived.Laws.BitsLemmas
import Derived.RowKit
import Derived.Test.YtbjfkonkmgghfaaWWords
import Derived.Test.YtbjfkonkmgghfaaWLast
import Derived.Test.YtbjfkonkmgghfaaWTab
import Derived.Test.YtbjfkonkmgghfaaWFour
import Derived.Test.YtbjfkonkmgghfaaWQPut
import Derived.Test.YtbjfkonkmgghfaaWApart
import Derived.Test.YtbjfkonkmgghfaaWArr
import Derived.Test.YtbjfkonkmgghfaaWZeros
import Derived.Test.YtbjfkonkmgghfaaWFoot
import Derived.Test.YtbjfkonkmgghfaaWKept
import Derived.Test.YtbjfkonkmgghfaaWShare
import Derived.Test.YtbjfkonkmgghfaaWN
import Derived.Test.YtbjfkonkmgghfaaWFootNe
import Derived.Test.YtbjfkonkmgghfaaWAt
import Derived.Test.YtbjfkonkmgghfaaWEqStruct
import Derived.Test.YtbjfkonkmgghfaaWRepsOne
import Derived.Test.YtbjfkonkmgghfaaWInv
import Derived.Test.YtbjfkonkmgghfaaWInvWords
import Derived.Test.YtbjfkonkmgghfaaWGuard
import Derived.Test.YtbjfkonkmgghfaaWNEv
import Derived.Test.YtbjfkonkmgghfaaWMore
import Derived.WalkSpells
import Derived.Deep.RegionLaw
import Derived.IntWalk
namespace Go.Proofs.Ytbjfkonkmgghfaa.Mine
open Go.RowKit Go.Proofs.YtbjfkonkmgghfaaW.PrintWords Go.Proofs.YtbjfkonkmgghfaaW.PrintLast Go.Proofs.YtbjfkonkmgghfaaW.PrintMore
set_option linter.unusedVariables false
set_option linter.unusedSimpArgs false

/-- A slice of whole numbers that came in: its cells up to its capacity. -/
def IsRow (k : IntKind) (w : World) (a : Option Addr) (len cap : Nat) (zs : List Int) : Prop :=
  (a = none ∧ len = 0 ∧ cap = 0 ∧ zs = []) ∨
  ∃ x, a = some x ∧ len ≤ cap ∧ cap ≤ maxLen ∧ zs.length = cap ∧ (∀ i, i < zs.length → w.cell? (x.add i) = some (.int k (zs.getD i 0))) ∧ ∀ n ∈ zs, (Lit.int k n).wf = true

theorem R_form {α : Type} {d : Kd α} {e : Nat} {w : World} {base : Nat} {ok : Nat → Prop} {v : Value} {xs : List α} (h : d.R e w base ok v xs) : ∃ A n c, v = .slice A n c := by
  obtain ⟨A, c, he⟩ := Kd.R_slice h
  exact ⟨A, _, c, he⟩
theorem info5 : (Try.prog.info? 5).map (fun i => (i.zero, i.size, i.bytes)) = some (some (.int .u8 0), 1, 1) := by kernel_rfl

/-- 'xs[lo:hi]' of a row that is read. -/
theorem cutLH {P : Program} {α : Type} {d : Kd α} (t e : TypeId) (ht : P.underlying t = some (.slice e)) (hsz : (P.info? e).map (·.size) = some d.sz) (A : Option Addr) (n c : Nat) (l : List α) (lo hi : Int) (a m : Nat) (ha : lo = a) (hb : hi = ((a + m : Nat) : Int)) (hn : a + m ≤ n) (hc : n ≤ c) :
    ∃ A', (∀ W : World, (Instr.slice t (.slice A n c) (some (.int .i64 lo)) (some (.int .i64 hi)) none).run P W = .ok (.slice A' m (c - a)) W) ∧ (∀ w, d.C w A n l → d.C w A' m ((l.drop a).take m)) := by
  obtain ⟨i, hi', hz⟩ := Option.map_eq_some_iff.1 hsz
  subst ha hb
  refine ⟨if c = a then A else A.map (·.add (a * d.sz)), fun W => ?_, fun w h => ?_⟩
  · have := cut_mid (P := P) t e .i64 .i64 ht hi' d.sz hz A n c (a : Int) ((a + m : Nat) : Int) (by omega) (by omega) (by omega) hc W
    rw [this, Int.toNat_natCast, Int.toNat_natCast, Nat.add_sub_cancel_left]
  · obtain rfl : l.length = n := h.1
    have := Kd.C_mid (c := c) (lo := a) (hi := a + m) h (by omega) hn hc
    have e1 : (l.take (a + m)).drop a = (l.drop a).take m := by
      rw [List.drop_take]; congr 1; omega
    rw [e1] at this
    rwa [show ((l.drop a).take m).length = m by rw [List.length_take, List.length_drop]; omega] at this
/-- 'xs[:hi]' of a row that is read. -/
theorem cutH {P : Program} {α : Type} {d : Kd α} (t e : TypeId) (ht : P.underlying t = some (.slice e)) (hsz : (P.info? e).map (·.size) = some d.sz) (A : Option Addr) (n c : Nat) (l : List α) (hi : Int) (m : Nat) (hb : hi = (m : Int)) (hn : m ≤ n) (hc : n ≤ c) :
    (∀ W : World, (Instr.slice t (.slice A n c) none (some (.int .i64 hi)) none).run P W = .ok (.slice A m c) W) ∧ (∀ w, d.C w A n l → d.C w A m (l.take m)) := by
  subst hb
  refine ⟨fun W => ?_, fun w h => ?_⟩
  · obtain ⟨i, hi', hz⟩ := Option.map_eq_some_iff.1 hsz
    have hel : P.elem t = e := by simp [Program.elem, ht]
    have hu : P.underlying t = some (.slice (P.elem t)) := by rw [hel]; exact ht
    rw [run_slice_h W t A n c hu .i64 (m : Int) (by omega) (by omega), hel]
    simp [sizeOf, typeInfo, hi', sliced, Result.andThen, Int.toNat_natCast]
    intro _
    cases A with
    | none => rfl
    | some ad => simp [Addr.add]
  · obtain rfl : l.length = n := h.1
    have := Kd.C_take h hn
    rwa [show (l.take m).length = m by rw [List.length_take]; omega] at this
/-- 'xs[lo:]' of a row that is read. -/
theorem cutL {P : Program} {α : Type} {d : Kd α} (t e : TypeId) (ht : P.underlying t = some (.slice e)) (hsz : (P.info? e).map (·.size) = some d.sz) (A : Option Addr) (n c : Nat) (l : List α) (lo : Int) (a : Nat) (ha : lo = a) (hn : a ≤ n) (hc : n ≤ c) :
    ∃ A', (∀ W : World, (Instr.slice t (.slice A n c) (some (.int .i64 lo)) none none).run P W = .ok (.slice A' (n - a) (c - a)) W) ∧ (∀ w, d.C w A n l → d.C w A' (n - a) (l.drop a)) := by
  obtain ⟨i, hi', hz⟩ := Option.map_eq_some_iff.1 hsz
  subst ha
  refine ⟨if c = a then A else A.map (·.add (a * d.sz)), fun W => ?_, fun w h => ?_⟩
  · have hel : P.elem t = e := by simp [Program.elem, ht]
    have hu : P.underlying t = some (.slice (P.elem t)) := by rw [hel]; exact ht
    rw [run_slice_l W t A n c hu .i64 (a : Int) (by omega) (by omega), hel]
    simp [sizeOf, typeInfo, hi', hz, sliced, Result.andThen]
  · obtain rfl : l.length = n := h.1
    have := Kd.C_drop (c := c) h hn hc
    rwa [List.length_drop] at this
/-- The cells of a row of whole numbers that is read. -/
theorem intCells {k : IntKind} {w : World} {A : Option Addr} {n : Nat} {l : List Int} (h : Kd.C (Kd.int k) w A n l) (hn : 0 < n) : ∃ ad, A = some ad ∧ ∀ j, j < n → w.cell? (ad.add j) = some (.int k (l.getD j 0)) := (Kd.reads_of_C h).2.2 hn

/-- The same, the address laid open. -/
theorem intCells2 {k : IntKind} {w : World} {A : Option Addr} {n : Nat} {l : List Int} (h : Kd.C (Kd.int k) w A n l) (hn : 0 < n) : ∃ b o, A = some ⟨b, o, none⟩ ∧ ∀ j, j < n → w.cell? ⟨b, o + j, none⟩ = some (.int k (l.getD j 0)) := by
  obtain ⟨⟨b, o, sp⟩, rfl, hc⟩ := intCells h hn
  have h0 := hc 0 hn
  cases sp with
  | none =>
    refine ⟨b, o, rfl, fun j hj => ?_⟩
    have := hc j hj
    unfold Addr.add at this
    split at this
    · simp_all
    · exact this
  | some s => simp [Addr.add, World.cell?] at h0; split at h0 <;> cases h0
theorem wrap_i64 (a : Int) (h0 : -9223372036854775808 ≤ a) (h1 : a ≤ 9223372036854775807) : IntKind.i64.wrap a = a := IntWalk.i64_in _ (by omega)

def ones16 : List Int := List.replicate 16 255

end Go.Proofs.Ytbjfkonkmgghfaa.Mine
