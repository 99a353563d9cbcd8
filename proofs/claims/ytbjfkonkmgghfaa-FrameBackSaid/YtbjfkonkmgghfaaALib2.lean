/- More small words. -/
import Derived.Test.YtbjfkonkmgghfaaALib
namespace Go.Proofs.Ytbjfkonkmgghfaa.Mine
open Go.RowKit Go.Proofs.YtbjfkonkmgghfaaW.PrintWords Go.Proofs.YtbjfkonkmgghfaaW.PrintLast Go.Proofs.YtbjfkonkmgghfaaW.PrintMore

theorem wf_u8 {a : Int} (h : (Lit.int .u8 a).wf = true) : 0 ≤ a ∧ a ≤ 255 := by
  simp [Lit.wf, IntKind.min, IntKind.max, IntKind.bits, IntKind.signed] at h
  omega
theorem wf_u32 {a : Int} (h : (Lit.int .u32 a).wf = true) : 0 ≤ a ∧ a ≤ 4294967295 := by
  simp [Lit.wf, IntKind.min, IntKind.max, IntKind.bits, IntKind.signed] at h
  omega
theorem wf_i64 {a : Int} (h : (Lit.int .i64 a).wf = true) : -9223372036854775808 ≤ a ∧ a ≤ 9223372036854775807 := by
  simp [Lit.wf, IntKind.min, IntKind.max, IntKind.bits, IntKind.signed] at h
  omega

/-- A row of whole numbers of one's own that is not empty: its block, its cells; none is frozen. -/
theorem R_cells {k : IntKind} {e : Nat} {w : World} {base : Nat} {ok : Nat → Prop} {v : Value} {xs : List Int} (h : Kd.R (Kd.int k) e w base ok v xs) (h0 : 0 < xs.length) :
    ∃ g c, v = .slice (some ⟨g, 0, none⟩) xs.length c ∧ xs.length ≤ c ∧ base ≤ g ∧ (∀ j, j < xs.length → w.cell? ⟨g, j, none⟩ = some (.int k (xs.getD j 0))) ∧ ∀ j, w.frozen? ⟨g, j, none⟩ = false := by
  obtain ⟨A, c, hv, hl, hc⟩ := Kd.R_reads h
  obtain ⟨_, inner, ho, _⟩ := h
  rcases ho.2 with ⟨rfl, h1⟩ | ⟨g, cap, cur, rfl, hb, hg, _⟩
  · omega
  · injection hv with e1 e2 e3
    subst e1
    obtain ⟨p, o, hp, hcell⟩ := intCells2 hc h0
    injection hp with hp
    injection hp with hp1 hp2 _
    subst hp1 hp2
    subst e3
    refine ⟨g, cap, rfl, hl, hb, fun j hj => ?_, fun j => blk_frozen hg j⟩
    have := hcell j hj
    rwa [Nat.zero_add] at this
end Go.Proofs.Ytbjfkonkmgghfaa.Mine
