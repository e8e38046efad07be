/- Every operation but calls; contracts; calls. -/
import Derived.Test.YtnnpjblpiecfdaaFwM
namespace Go.Proofs.Ytnnpjblpiecfdaa.Fw
open Go.RowKit
set_option linter.unusedVariables false
set_option linter.unusedSimpArgs false

section
variable {P : Program} {T : Tab} {E : Entry} {s : AState} {a : Act} {w : World} {F : Nat → Prop} {B : Beta} {U : Nat → Prop}

theorem pure_does (hT : Tab.ok P T = true) (h : RelB E s a w F B U) {nid : Nat} {o : Oper} {x : AV} (he : apure T s o.op = some x) : Does P o a w (After E (s.eff nid .no) a (fun l => U l ∨ l = nid) x) := by
  obtain ⟨v, h1, h2, h3⟩ := apure_sound hT h he
  exact Does.mk h1 (after_no h h2 h3)

theorem builtin_does (hT : Tab.ok P T = true) (h : RelB E s a w F B U) {nid : Nat} {o : Oper} {c : Call} {b : Builtin} {x : AV} (ho : o.op = .call c) (hb : c.callee = .builtin b) (he : abuiltin T s b c.argTypes.toList (c.args.toList.map s.eval) = some x) :
    Does P o a w (After E (s.eff nid .no) a (fun l => U l ∨ l = nid) x) := by
  refine pure_does hT h ?_
  rw [ho]
  simp only [apure, hb]
  exact he

theorem aeff_sound (hT : Tab.ok P T = true) (h : RelB E s a w F B U) {nid : Nat} (hn : ¬ U nid) {o : Oper} {x : AV} {eff : Eff} (he : aeff T s nid o.op = some (x, eff)) : Does P o a w (After E (s.eff nid eff) a (fun l => U l ∨ l = nid) x) := by
  unfold aeff at he
  split at he
  case h_1 t ho =>
    split at he
    · simp only [Option.some.injEq, Prod.mk.injEq] at he
      obtain ⟨rfl, rfl⟩ := he
      exact alloc_sound hT h hn ho ‹_›
    · cases he
  case h_2 t y ho =>
    split at he
    · simp only [Option.some.injEq, Prod.mk.injEq] at he
      obtain ⟨rfl, rfl⟩ := he
      exact box_sound h hn ho ‹_›
    · cases he
  case h_3 t parts ho =>
    split at he
    · simp only [Option.some.injEq, Prod.mk.injEq] at he
      obtain ⟨rfl, rfl⟩ := he
      obtain ⟨v, h1, h2, h3⟩ := build_sound hT h ‹_›
      refine Does.mk (v := v) (w' := w) ?_ (after_no h h2 h3)
      simp only [execOp, ho]
      rw [Sem.run_bind]
      erw [h1]
      rfl
    · cases he
  case h_4 t len parts ho =>
    split at he
    · split at he
      · split at he
        · split at he
          · split at he
            · simp only [Option.some.injEq, Prod.mk.injEq] at he
              obtain ⟨rfl, rfl⟩ := he
              exact buildSlice_sound hT h hn ho ‹_› ‹_› ‹_› ‹_› ‹_›
            · cases he
          · cases he
        · cases he
      · cases he
    · cases he
  case h_5 t len cap ho =>
    split at he
    · split at he
      · split at he
        · split at he
          · simp only [Option.some.injEq, Prod.mk.injEq] at he
            obtain ⟨rfl, rfl⟩ := he
            exact makeSlice_sound hT h hn ho ‹_› ‹_› ‹_› ‹_› ‹_›
          · cases he
        · cases he
      · cases he
    · cases he
  case h_6 t p y ho =>
    split at he
    · split at he
      · split at he
        · split at he
          · simp only [Option.some.injEq, Prod.mk.injEq] at he
            obtain ⟨rfl, rfl⟩ := he
            exact store_sound hT h ho ‹_› ‹_› ‹_› ‹_›
          · cases he
        · cases he
      · cases he
    · cases he
  case h_7 c ho =>
    split at he
    · split at he
      · split at he
        · rename_i hcb _ _ t u y1 y2 hct hca hut
          subst hut
          exact append_sound hT h hn ho hcb hct hca he
        · cases he
      · cases he
    · split at he
      · simp only [Option.some.injEq, Prod.mk.injEq] at he
        obtain ⟨rfl, rfl⟩ := he
        exact builtin_does hT h ho ‹_› ‹_›
      · cases he
    · cases he
  case h_8 =>
    split at he
    · simp only [Option.some.injEq, Prod.mk.injEq] at he
      obtain ⟨rfl, rfl⟩ := he
      exact pure_does hT h ‹_›
    · cases he

end
end Go.Proofs.Ytnnpjblpiecfdaa.Fw
