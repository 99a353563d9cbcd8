/- Each operation, and rows of them in the order of the text. -/
import Derived.Test.YtdchhhedpipeiaaEvKM
set_option linter.unusedVariables false
set_option linter.unusedSimpArgs false
namespace Go.Ev
open Go.RowKit

variable {P : Program} {E : Env} {w0 : Base} {w : World} {S0 : Nat → Prop} {hv : Hv} {s : St} {a : Act} {key : Nat} {o : Oper}

theorem val_sound (ok : EnvOk w0.tr P E) (h : Rel w0 S0 hv s a w) (hk : hv key = none) {v : Slot} {st : Store} (he : evalOp E key o s = some (.val true v st)) : Sound P w0 S0 hv s a w key o v st := by
  unfold evalOp at he
  split at he
  · rename_i x ho
    obtain ⟨sl, hsl, e⟩ := Option.map_eq_some_iff.1 he
    simp only [Eff.val.injEq, true_and] at e
    obtain ⟨rfl, rfl⟩ := e
    exact op_move h (.inl ho) hsl
  · rename_i x ho
    obtain ⟨sl, hsl, e⟩ := Option.map_eq_some_iff.1 he
    simp only [Eff.val.injEq, true_and] at e
    obtain ⟨rfl, rfl⟩ := e
    exact op_move h (.inr ho) hsl
  · rename_i t ho
    obtain ⟨cs, hz, e⟩ := Option.map_eq_some_iff.1 he
    simp only [Eff.val.injEq, true_and] at e
    obtain ⟨rfl, rfl⟩ := e
    exact op_alloc ok h hk ho hz
  · rename_i t x ho
    split at he
    · rename_i sl hsl
      split at he
      · rename_i cs hc
        simp only [Option.some.injEq, Eff.val.injEq, true_and] at he
        obtain ⟨rfl, rfl⟩ := he
        exact op_box h hk ho hsl hc
      · cases he
    · cases he
  · rename_i t parts ho
    split at he
    · rename_i cs hz
      split at he
      · rename_i hst
        obtain ⟨l, hl, e⟩ := Option.map_eq_some_iff.1 he
        simp only [Eff.val.injEq, true_and] at e
        obtain ⟨rfl, rfl⟩ := e
        exact op_build ok h ho hz hl (ok.strct _ hst)
      · cases he
    · cases he
  · rename_i t len parts ho
    split at he
    · rename_i e hT
      split at he
      · rename_i xs hp
        split at he
        · rename_i hc
          simp only [Option.some.injEq, Eff.val.injEq, true_and] at he
          obtain ⟨rfl, rfl⟩ := he
          exact op_buildSlice ok h hk ho hT hp hc.1 hc.2
        · cases he
      · cases he
    · cases he
  · rename_i t x ho
    split at he
    · rename_i av hx
      obtain ⟨sl, hl, e⟩ := Option.map_eq_some_iff.1 he
      simp only [Eff.val.injEq, true_and] at e
      obtain ⟨rfl, rfl⟩ := e
      exact op_load ok h ho hx hl
    · cases he
  · rename_i t x y ho
    split at he
    · rename_i av hx
      split at he
      · rename_i sl hy
        obtain ⟨st1, hl, e⟩ := Option.map_eq_some_iff.1 he
        simp only [Eff.val.injEq, true_and] at e
        obtain ⟨rfl, rfl⟩ := e
        exact op_store ok h ho hx hy hl
      · cases he
    · cases he
  · rename_i x ho
    split at he
    · rename_i p q r t hx
      simp only [Option.some.injEq, Eff.val.injEq, true_and] at he
      obtain ⟨rfl, rfl⟩ := he
      exact op_nilCheck h ho hx (.inl ⟨_, _, _, _, rfl⟩)
    · rename_i p q r hx
      simp only [Option.some.injEq, Eff.val.injEq, true_and] at he
      obtain ⟨rfl, rfl⟩ := he
      exact op_nilCheck h ho hx (.inr (.inl ⟨_, _, _, rfl⟩))
    · rename_i p q hx
      simp only [Option.some.injEq, Eff.val.injEq, true_and] at he
      obtain ⟨rfl, rfl⟩ := he
      exact op_nilCheck h ho hx (.inr (.inr ⟨_, _, rfl⟩))
    · cases he
  · rename_i op t x y t' ho
    split at he
    · rename_i sx hx
      split at he
      · rename_i sy hy
        obtain ⟨⟨c, v1⟩, hb, e⟩ := Option.map_eq_some_iff.1 he
        simp only [Eff.val.injEq] at e
        obtain ⟨rfl, rfl, rfl⟩ := e
        exact op_binOp ok h ho hx hy hb
      · cases he
    · cases he
  · rename_i op t x ho
    refine op_unOp (E := E) (c := true) h ho ?_
    unfold evalOp
    rw [ho]
    exact he
  · rename_i src dst x ho
    split at he
    · rename_i sx hx
      exact op_convert ok h ho hx he
    · cases he
  · rename_i t l c ho
    split at he
    · rename_i e hT
      split at he
      · rename_i by_ hby
        split at he
        · rename_i k n hn
          split at he
          · rename_i k' m hm
            simp only [Option.some.injEq, Eff.val.injEq, Bool.and_eq_true, decide_eq_true_eq] at he
            obtain ⟨⟨⟨⟨h0, h1⟩, h2⟩, h3⟩, rfl, rfl⟩ := he
            exact op_makeSlice ok h hk ho hT hby hn hm h0 h1 h2 h3
          · cases he
        · cases he
      · cases he
    · cases he
  · rename_i t x lo hi mx ho
    split at he
    · split at he
      · rename_i e hT
        split at he
        · rename_i av hx
          split at he
          · rename_i len hl
            split at he
            · rename_i l hlo
              split at he
              · rename_i r hhi
                exact op_slice ok h ho hT hx hl hlo hhi he
              · cases he
            · cases he
          · cases he
        · cases he
      · cases he
    · cases he
  · rename_i t x f ho
    split at he
    · rename_i d n hf
      split at he
      · rename_i k i sz off hx
        simp only [Option.some.injEq, Eff.val.injEq, true_and] at he
        obtain ⟨rfl, rfl⟩ := he
        exact op_fieldAddr ok h ho hf hx (.inl ⟨_, _, _, _, rfl, rfl⟩)
      · rename_i e y off hx
        simp only [Option.some.injEq, Eff.val.injEq, true_and] at he
        obtain ⟨rfl, rfl⟩ := he
        exact op_fieldAddr ok h ho hf hx (.inr ⟨_, _, _, rfl, rfl⟩)
      · cases he
    · cases he
  · rename_i t x ix ho
    split at he
    · rename_i e hT
      split at he
      · rename_i av hx
        split at he
        · rename_i k i hi
          exact op_indexAddr ok h ho hT hx hi he
        · cases he
      · cases he
    · cases he
  · rename_i x i ho
    split at he
    · rename_i l hx
      obtain ⟨av, hl, e⟩ := Option.map_eq_some_iff.1 he
      simp only [Eff.val.injEq, true_and] at e
      obtain ⟨rfl, rfl⟩ := e
      exact op_extract h ho hx hl
    · cases he
  · rename_i c ho
    unfold callE at he
    split at he
    · rename_i hc
      split at he
      · rename_i x hx
        split at he
        · rename_i av hav
          split at he
          · rename_i T hT
            split at he
            · rename_i e hty
              obtain ⟨n, hn, e⟩ := Option.map_eq_some_iff.1 he
              simp only [Eff.val.injEq, true_and] at e
              obtain ⟨rfl, rfl⟩ := e
              exact op_len ok h ho hc hx hT hty hav hn
            · split at he
              · rename_i kt vt hm
                split at he
                · split at he
                  · rename_i l n hl
                    simp only [Option.some.injEq, Eff.val.injEq, true_and] at he
                    obtain ⟨rfl, rfl⟩ := he
                    exact op_mapLen ok h ho hc hx hT hm hav hl
                  · cases he
                · cases he
              · cases he
          · cases he
        · cases he
      · cases he
    · rename_i hc
      split at he
      · rename_i x y hx
        split at he
        · rename_i av hav
          split at he
          · rename_i bv hbv
            split at he
            · rename_i T T' hTT
              split at he
              · rename_i e hty
                split at he
                · rename_i e' hty'
                  split at he
                  · rename_i by_ hby
                    exact op_append ok h hk ho hc hx hTT hty hty' hby hav hbv he
                  · cases he
                · cases he
              · cases he
            · cases he
          · cases he
        · cases he
      · cases he
    · rename_i hc
      split at he
      · rename_i x y hx
        split at he
        · rename_i k m hm
          split at he
          · rename_i k' n hn
            simp only [Option.some.injEq, Eff.val.injEq, true_and] at he
            obtain ⟨rfl, rfl⟩ := he
            exact op_min h ho hc hx hm hn
          · cases he
        · cases he
      · cases he
    · rename_i hc
      split at he
      · rename_i x y hx
        split at he
        · rename_i k m hm
          split at he
          · rename_i k' n hn
            simp only [Option.some.injEq, Eff.val.injEq, true_and] at he
            obtain ⟨rfl, rfl⟩ := he
            exact op_max h ho hc hx hm hn
          · cases he
        · cases he
      · cases he
    · rename_i hc
      split at he
      · rename_i x y hx
        split at he
        · rename_i k hav
          split at he
          · rename_i T hT
            split at he
            · rename_i kt vt hm
              split at he
              · rename_i l n hl
                split at he
                · rename_i sl hy
                  split at he
                  · rename_i kx hkx
                    simp only [Option.some.injEq, Eff.val.injEq, true_and] at he
                    obtain ⟨rfl, rfl⟩ := he
                    exact op_delete ok h ho hc hx hT hm hav hl hy hkx
                  · cases he
                · cases he
              · cases he
            · cases he
          · cases he
        · cases he
      · cases he
    · cases he
  · rename_i fn first captured ho
    split at he
    · rename_i f
      split at he
      · rename_i hf0
        split at he
        · rename_i ks hks
          simp only [Option.some.injEq, Eff.val.injEq, true_and] at he
          obtain ⟨rfl, rfl⟩ := he
          exact op_makeFunc h ho hf0 hks
        · cases he
      · cases he
    · cases he
  · rename_i t r ho
    split at he
    · split at he
      · rename_i kt vt hm
        simp only [Option.some.injEq, Eff.val.injEq, true_and] at he
        obtain ⟨rfl, rfl⟩ := he
        exact op_makeMap ok h hk ho hm
      · cases he
    · cases he
  · rename_i t x ix cok ho
    split at he
    · rename_i av hx
      split at he
      · rename_i sl hi
        obtain ⟨v1, hl, e⟩ := Option.map_eq_some_iff.1 he
        simp only [Eff.val.injEq, true_and] at e
        obtain ⟨rfl, rfl⟩ := e
        exact op_lookup ok h ho hx hi hl
      · cases he
    · cases he
  · rename_i t x ix y ho
    split at he
    · rename_i av hx
      split at he
      · rename_i sl hi
        split at he
        · rename_i vy hy
          obtain ⟨st1, hl, e⟩ := Option.map_eq_some_iff.1 he
          simp only [Eff.val.injEq, true_and] at e
          obtain ⟨rfl, rfl⟩ := e
          exact op_mapUpdate ok h ho hx hi hy hl
        · cases he
      · cases he
    · cases he
  · cases he
end Go.Ev
