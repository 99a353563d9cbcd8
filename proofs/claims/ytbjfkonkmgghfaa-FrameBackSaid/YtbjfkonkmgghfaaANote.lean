/- A walk of signpostkeep.Note, and blocks of bytes that are written in place. -/
import Derived.Test.YtbjfkonkmgghfaaALib
namespace Go.Proofs.Ytbjfkonkmgghfaa.Mine
open Go.RowKit Go.Proofs.YtbjfkonkmgghfaaW.PrintWords Go.Proofs.YtbjfkonkmgghfaaW.PrintLast Go.Proofs.YtbjfkonkmgghfaaW.PrintMore
set_option linter.unusedVariables false
set_option linter.unusedSimpArgs false

set_option maxHeartbeats 1600000 in
/-- Two Notes that are the same. -/
theorem note_same (c s : Int) (A B : Option Addr) (n m x y : Nat) (l : List Int) (w : World) (hl : Kd.C (Kd.int .u8) w A n l) (hk : Kd.C (Kd.int .u8) w B m l) :
    Calls Try.prog 15 #[.agg #[.int .i64 c, .int .i64 s, .slice A n x], .agg #[.int .i64 c, .int .i64 s, .slice B m y]] w fun e w' => e = .returned (.bool true) ∧ Below w.heap.size w w' := by
  have hu := Try.underlying36
  have h1 := fun (o1 o2 : Obj) => Kd.C_string (P := Try.prog) (A := A) (c := x) Try.underlying23 Try.underlying5 Try.underlying9 (Kd.C_alloc (Kd.C_alloc hl o1) o2)
  have h2 := fun (o1 o2 : Obj) => Kd.C_string (P := Try.prog) (A := B) (c := y) Try.underlying23 Try.underlying5 Try.underlying9 (Kd.C_alloc (Kd.C_alloc hk o1) o2)
  clear hl hk
  go_enter Try.func15, Try.ntmps15
  go_wp2
  go_ret
  refine ⟨rfl, ?_⟩
  repeat (first | exact Below.refl _ _ | apply below_alloc)

/-- A block of bytes. -/
def RB (W : World) (B : Nat) (xs : List Int) : Prop := W.heap[B]? = some (.cells (nums .u8 xs).toArray 5 (0, 0))
theorem RB.cell {W : World} {B : Nat} {xs : List Int} (h : RB W B xs) (j : Nat) (hj : j < xs.length) : W.cell? ⟨B, j, none⟩ = some (.int .u8 (xs.getD j 0)) := by
  rw [blk_cell h j]
  simp [nums, List.getD, hj]
theorem RB.frozen {W : World} {B : Nat} {xs : List Int} (h : RB W B xs) (j : Nat) : W.frozen? ⟨B, j, none⟩ = false := blk_frozen h j
theorem RB.set {W : World} {B : Nat} {xs : List Int} (h : RB W B xs) (j : Nat) (v : Int) : RB (W.setCell ⟨B, j, none⟩ (.int .u8 v)) B (xs.set j v) := by
  have := blk_set h j (.int .u8 v)
  unfold RB
  rw [this]
  simp [nums, List.map_set]
theorem RB.C {W : World} {B : Nat} {xs : List Int} (h : RB W B xs) (n : Nat) (hn : xs.length = n) (hl : n ≤ 9223372036854775807) : Kd.C (Kd.int .u8) W (some ⟨B, 0, none⟩) n xs := by
  refine Kd.C_of_reads (d := (0 : Int)) (h1 := fun _ => rfl) ⟨hn, hl, fun h0 => ⟨_, rfl, fun j hj => ?_⟩⟩
  rw [add_plain]
  exact h.cell j (by omega)
theorem RB.below {W W1 : World} {B : Nat} {xs : List Int} (h : RB W B xs) (hb : Below W.heap.size W W1) : RB W1 B xs := blk_below h hb
theorem RB.new (W : World) (xs : List Int) : RB (W.alloc (.cells (nums .u8 xs).toArray 5)) W.heap.size xs := heap_alloc_new W _
end Go.Proofs.Ytbjfkonkmgghfaa.Mine
