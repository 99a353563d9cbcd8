/- Walks of bytes.Repeat of one byte, sixteen times, and of frame's marker. -/
import Derived.Test.YtbjfkonkmgghfaaALib
import Derived.Lib.SlBuf
import Derived.Lib.Hide
import Derived.Lib.MakeNoZero
import Derived.Laws.Externs
namespace Go.Proofs.Ytbjfkonkmgghfaa.Mine
open Go.RowKit Go.Proofs.YtbjfkonkmgghfaaW.PrintWords Go.Proofs.YtbjfkonkmgghfaaW.PrintLast Go.Proofs.YtbjfkonkmgghfaaW.PrintMore
set_option linter.unusedVariables false
set_option linter.unusedSimpArgs false

theorem mul64_16 (w : World) : Calls Try.prog 32 #[.int .u64 1, .int .u64 16] w fun e w' => e = .returned (.tuple #[.int .u64 0, .int .u64 16]) ∧ w = w' := by
  go_enter Try.func32, Try.ntmps32
  go_wp2
  go_ret2
  exact ⟨rfl, rfl⟩
theorem mul_16 (w : World) : Calls Try.prog 29 #[.int .u64 1, .int .u64 16] w fun e w' => e = .returned (.tuple #[.int .u64 0, .int .u64 16]) ∧ w = w' := by
  go_enter Try.func29, Try.ntmps29
  go_wp2_with (go_at_call 32; refine (mul64_16 _).mono ?_; rintro e w' ⟨rfl, rfl⟩)
  go_ret2
  exact ⟨rfl, rfl⟩

/-- 'copy(nb[n:], nb[:m])' of a buffer whose first n bytes are all one byte. -/
theorem copy_self (w0 wr : World) (h N n m : Nat) (x : UInt8) (ty : TypeId) (hh : w0.heap.size ≤ h) (hb : Lib.Buf w0 wr h N (List.replicate n x)) (hm : m ≤ n) (hfit : n + m ≤ N) (h0 : 0 < m) :
    ∃ wr', (Builtin.copy_ #[23, 23] ty #[Lib.tailV h N n, .slice (some ⟨h, 0, none⟩) m N]).run Try.prog wr = .ok (.int .i64 (m : Int)) wr' ∧ Lib.Buf w0 wr' h N (List.replicate (n + m) x) := by
  have hne : ¬ N = n := by omega
  have hsz : (Try.prog.info? 5).map (·.size) = some 1 := by
    obtain ⟨i, hi, hz⟩ := Option.map_eq_some_iff.1 info5
    simp only [Prod.mk.injEq] at hz
    rw [hi, Option.map_some, hz.2.1]
  have hr := run_copy_cells (P := Try.prog) wr 23 23 ty 5 h n (N - n) (N - n) ⟨h, 0, none⟩ m N (List.replicate m (Value.int .u8 (x.toNat : Int))) Try.underlying23 hsz (by rw [List.length_replicate]; exact (Nat.min_eq_left (by omega)).symm)
    (fun j u hj => by
      have hjm : j < m := by
        rcases Nat.lt_or_ge j m with h | h
        · exact h
        · rw [List.getElem?_eq_none (by simpa using h)] at hj; cases hj
      rw [List.getElem?_replicate, if_pos hjm] at hj
      obtain rfl := Option.some.inj hj
      have := hb.holds j x (by rw [List.getElem?_replicate, if_pos (by omega)])
      rw [add_plain]
      exact this)
    (fun j hj => by rw [List.length_replicate] at hj; exact hb.there _ (by omega)) (fun j hj => by rw [List.length_replicate] at hj; exact hb.free _ (by omega))
    (fun u hu' => by rw [List.eq_of_mem_replicate hu']; rfl)
  rw [List.length_replicate] at hr
  refine ⟨_, by unfold Lib.tailV; rw [if_neg hne]; exact hr, ?_⟩
  have hin := World.cell?_setCells_in h (List.replicate m (Value.int .u8 (x.toNat : Int))) n wr (fun j hj => by rw [List.length_replicate] at hj; exact hb.there _ (by omega))
  have hout := World.cell?_setCells_out h (List.replicate m (Value.int .u8 (x.toNat : Int))) n wr
  refine ⟨Lib.below_setCells h (Nat.le_refl _) _ _ hb.below, ?_, ?_, ?_, by rw [List.length_replicate]; exact hfit⟩
  · intro j hj
    by_cases h1 : n ≤ j ∧ j < n + m
    · obtain ⟨d, rfl⟩ : ∃ d, j = n + d := ⟨j - n, by omega⟩
      rw [hin d (by rw [List.length_replicate]; omega)]
      rfl
    · rw [hout ⟨h, j, none⟩ (fun _ _ => by rw [List.length_replicate]; show j < _ ∨ _ ≤ j; omega)]
      exact hb.there j hj
  · intro j hj
    rw [World.frozen?_setCells]
    exact hb.free j hj
  · intro j y hx
    have hjl : j < n + m := by
      rcases Nat.lt_or_ge j (n + m) with h | h
      · exact h
      · rw [List.getElem?_eq_none (by simpa using h)] at hx; cases hx
    rw [List.getElem?_replicate, if_pos hjl] at hx
    obtain rfl := Option.some.inj hx
    by_cases h1 : j < n
    · rw [hout ⟨h, j, none⟩ (fun _ _ => Or.inl h1)]
      exact hb.holds j x (by rw [List.getElem?_replicate, if_pos h1])
    · obtain ⟨d, rfl⟩ : ∃ d, j = n + d := ⟨j - n, by omega⟩
      rw [hin d (by rw [List.length_replicate]; omega)]
      simp

/-- A filled buffer's bytes, as a row that is read. -/
theorem buf_reads {w0 wr : World} {h N : Nat} {x : UInt8} (hb : Lib.Buf w0 wr h N (List.replicate N x)) (hN : N ≤ 9223372036854775807) : Kd.C (Kd.int .u8) wr (some ⟨h, 0, none⟩) N (List.replicate N (x.toNat : Int)) := by
  refine Kd.C_of_reads (d := (0 : Int)) (h1 := fun _ => rfl) ⟨by simp, hN, fun hn => ⟨_, rfl, fun j hj => ?_⟩⟩
  rw [add_plain]
  have := hb.holds j x (by rw [List.getElem?_replicate, if_pos hj])
  rw [this]
  simp [List.getD, hj]

theorem step_copy_run {P : Program} {ops : Array Oper} {o : Oper} {a : Act} {w : World} {K : Act → World → Prop} {Q : Exit → Act → World → Prop} {E : Prop} (hg : o.guard = none) (d s : Operand) (t t' : TypeId)
    (ho : o.op = .call { callee := .builtin .copy, args := #[d, s], argTypes := #[t, t'] }) (v u : Value) (hd : a.eval d = v) (hs : a.eval s = u) {v' : Value} {w' : World}
    (hr : (Builtin.copy_ #[t, t'] o.type #[v, u]).run P w = .ok v' w') (h : K (a.put o.dst v') w') : if Region.wanted o (yielded ops a.tmps) = true then Oper.wp P o a w K Q else E := by
  rw [if_pos (by simp [Region.wanted, hg])]
  exact Lib.wp_copy_run w d s t t' ho v u hd hs hr h
theorem buf_drew {w0 wr : World} {h N : Nat} {acc : List UInt8} (hb : Lib.Buf w0 wr h N acc) : Lib.Buf w0 wr.drew h N acc := ⟨below_drew1 hb.below, hb.there, hb.free, hb.holds, hb.fits⟩
theorem sizeOf5 (w : World) : (Go.sizeOf 5).run Try.prog w = .ok 1 w := by
  kernel_rfl

set_option maxHeartbeats 1600000 in
theorem repeat_ff (ad : Addr) (w : World) (hc : w.cell? ad = some (.int .u8 255)) : Calls Try.prog 27 #[.slice (some ad) 1 1, .int .i64 16] w fun e w' => ∃ A c, e = .returned (.slice A 16 c) ∧ Kd.C (Kd.int .u8) w' A 16 ones16 ∧ Below w.heap.size w w' := by
  obtain ⟨cs, hrunM, hle, _⟩ := Lib.run_makeNoZero (P := Try.prog) w #[3] 23 5 Try.underlying23 16 (by omega)
  have hcall : (callFunc 30 #[.int .i64 (16 : Int)]).run Try.prog w = .ok (.value (.slice (some ⟨w.heap.size, 0, none⟩) 16 cs.size)) ((w.alloc (.cells cs 5)).drewN 2) := by
    rw [run_callFunc_extern Try.func30 (by kernel_rfl) (by kernel_rfl) (by kernel_rfl) (e := Extern.BytealgMakeNoZero.makeNoZero #[3] #[23]) (by kernel_rfl)]
    rw [show (16 : Int) = ((16 : Nat) : Int) from rfl, hrunM]
    rfl
  have hsz : (Try.prog.info? 5).map (·.size) = some 1 := by
    obtain ⟨i, hi, hz⟩ := Option.map_eq_some_iff.1 info5
    simp only [Prod.mk.injEq] at hz
    rw [hi, Option.map_some, hz.2.1]
  obtain ⟨w1, hr1, B1⟩ := Lib.copy_part (P := Try.prog) w _ w.heap.size 16 [] [255] (.slice (some ad) 1 1) 23 3 5 Try.underlying23 hsz (Nat.le_refl _) (Lib.Buf.start w cs 5 16 2 hle) ⟨some ad, 1, rfl, by simp, fun a ha j x hx => by
    obtain rfl := Option.some.inj ha
    match j, hx with
    | 0, hx => simp at hx; subst hx; simpa [Addr.add] using hc⟩ (by simp)
  rw [List.length_nil, Lib.tailV_zero] at hr1
  have HB1 : Aside0 (Lib.Buf w w1 w.heap.size 16 (List.replicate 1 255)) := ⟨B1⟩
  have hi0 : (16 : Int) ≤ (cs.size : Int) := by omega
  clear B1 hle
  go_enter Try.func27, Try.ntmps27
  go_wp2_with (first | (go_at_call 29; refine (mul_16 _).mono ?_; rintro e w' ⟨rfl, rfl⟩) | (at_builtin; refine Lib.wpList_copy_run _ rfl _ _ 23 23 rfl _ _ rfl rfl hr1 ?_))
  clear hr1 hcall
  go_loopw [10, 11] (fun s10 _ wr => ∃ (n : Nat) (z : Int), ((n = 1 ∧ z = 1) ∨ (n = 2 ∧ z = 2) ∨ (n = 4 ∧ z = 4) ∨ (n = 8 ∧ z = 8) ∨ (n = 16 ∧ z = 16)) ∧ s10 = .int .i64 z ∧ Aside0 (Lib.Buf w wr w.heap.size 16 (List.replicate n 255))) (fun v _ _ => 16 - (intOf v).toNat)
  case atStart => exact ⟨1, 1, .inl ⟨rfl, rfl⟩, rfl, HB1⟩
  case round =>
    obtain ⟨n, z, hn, rfl, HB⟩ := hrel
    rcases hn with ⟨rfl, rfl⟩ | ⟨rfl, rfl⟩ | ⟨rfl, rfl⟩ | ⟨rfl, rfl⟩ | ⟨rfl, rfl⟩
    · have hmin : min (1 : Int) 16 = 1 := by decide
      have hwr : IntKind.i64.wrap 2 = 2 := by decide
      go_wp2
      have hsl1 : ∀ W, (Instr.slice 23 (.slice (some ⟨w.heap.size, 0, none⟩) 16 16) (some (.int .i64 1)) none none).run Try.prog W = .ok (Lib.tailV w.heap.size 16 1) W := fun W => Lib.run_slice_tailV W 23 5 Try.underlying23 sizeOf5 w.heap.size 16 1 (by omega)
      obtain ⟨w2, hr2, B2⟩ := copy_self w wr.drew w.heap.size 16 1 1 255 3 (Nat.le_refl _) (buf_drew HB.out) (by omega) (by omega) (by omega)
      have HB2 : Aside0 (Lib.Buf w w2 w.heap.size 16 (List.replicate 2 255)) := ⟨B2⟩
      clear B2
      go_region
      clear hsl1 hr2 hmin
      go_roundw
      case rel => (repeat apply Exists.intro); exact ⟨⟨2, 2, by simp, rfl, HB2⟩, rfl⟩
      case measure => simp [intOf]
    · have hmin : min (2 : Int) 16 = 2 := by decide
      have hwr : IntKind.i64.wrap 4 = 4 := by decide
      go_wp2
      have hsl1 : ∀ W, (Instr.slice 23 (.slice (some ⟨w.heap.size, 0, none⟩) 16 16) (some (.int .i64 2)) none none).run Try.prog W = .ok (Lib.tailV w.heap.size 16 2) W := fun W => Lib.run_slice_tailV W 23 5 Try.underlying23 sizeOf5 w.heap.size 16 2 (by omega)
      obtain ⟨w2, hr2, B2⟩ := copy_self w wr.drew w.heap.size 16 2 2 255 3 (Nat.le_refl _) (buf_drew HB.out) (by omega) (by omega) (by omega)
      have HB2 : Aside0 (Lib.Buf w w2 w.heap.size 16 (List.replicate 4 255)) := ⟨B2⟩
      clear B2
      go_region
      clear hsl1 hr2 hmin
      go_roundw
      case rel => (repeat apply Exists.intro); exact ⟨⟨4, 4, by simp, rfl, HB2⟩, rfl⟩
      case measure => simp [intOf]
    · have hmin : min (4 : Int) 16 = 4 := by decide
      have hwr : IntKind.i64.wrap 8 = 8 := by decide
      go_wp2
      have hsl1 : ∀ W, (Instr.slice 23 (.slice (some ⟨w.heap.size, 0, none⟩) 16 16) (some (.int .i64 4)) none none).run Try.prog W = .ok (Lib.tailV w.heap.size 16 4) W := fun W => Lib.run_slice_tailV W 23 5 Try.underlying23 sizeOf5 w.heap.size 16 4 (by omega)
      obtain ⟨w2, hr2, B2⟩ := copy_self w wr.drew w.heap.size 16 4 4 255 3 (Nat.le_refl _) (buf_drew HB.out) (by omega) (by omega) (by omega)
      have HB2 : Aside0 (Lib.Buf w w2 w.heap.size 16 (List.replicate 8 255)) := ⟨B2⟩
      clear B2
      go_region
      clear hsl1 hr2 hmin
      go_roundw
      case rel => (repeat apply Exists.intro); exact ⟨⟨8, 8, by simp, rfl, HB2⟩, rfl⟩
      case measure => simp [intOf]
    · have hmin : min (8 : Int) 16 = 8 := by decide
      have hwr : IntKind.i64.wrap 16 = 16 := by decide
      go_wp2
      have hsl1 : ∀ W, (Instr.slice 23 (.slice (some ⟨w.heap.size, 0, none⟩) 16 16) (some (.int .i64 8)) none none).run Try.prog W = .ok (Lib.tailV w.heap.size 16 8) W := fun W => Lib.run_slice_tailV W 23 5 Try.underlying23 sizeOf5 w.heap.size 16 8 (by omega)
      obtain ⟨w2, hr2, B2⟩ := copy_self w wr.drew w.heap.size 16 8 8 255 3 (Nat.le_refl _) (buf_drew HB.out) (by omega) (by omega) (by omega)
      have HB2 : Aside0 (Lib.Buf w w2 w.heap.size 16 (List.replicate 16 255)) := ⟨B2⟩
      clear B2
      go_region
      clear hsl1 hr2 hmin
      go_roundw
      case rel => (repeat apply Exists.intro); exact ⟨⟨16, 16, by simp, rfl, HB2⟩, rfl⟩
      case measure => simp [intOf]
    · go_wp2
      go_ret
      exact ⟨_, _, rfl, buf_reads HB.out (by omega), Below.mono HB.out.below (Nat.le_refl _)⟩
end Go.Proofs.Ytbjfkonkmgghfaa.Mine
