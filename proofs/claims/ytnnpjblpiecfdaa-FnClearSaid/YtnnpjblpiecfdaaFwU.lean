/- A region that draws its order: one run in the text's order serves every order. -/
import Derived.Test.YtnnpjblpiecfdaaFwT
namespace Go.Proofs.Ytnnpjblpiecfdaa.Fw
open Go.RowKit
set_option linter.unusedVariables false
set_option linter.unusedSimpArgs false

section
variable {P : Program} {T : Tab} {E : Entry} {s t : AState} {a : Act} {w : World} {F : Nat → Prop} {B : Beta} {U : Nat → Prop} {ops : Array Oper}

def RV.eff : RV → Eff
  | .own el sz rows => .new (.arr el sz rows)
  | .tup xs => match ownOf xs with
    | some (el, sz, rows) => .new (.arr el sz rows)
    | none => .no
  | .obox t cells => .new (.box t (cells.map .c))
  | _ => .no

theorem ret_eq (s : AState) (nid : Nat) (r : RV) : s.eff nid r.eff = s.ret nid r := by
  cases r with
  | tup xs =>
    cases h : ownOf xs with
    | none => simp only [RV.eff, AState.ret, h]; rfl
    | some o => obtain ⟨el, sz, rows⟩ := o; simp only [RV.eff, AState.ret, h]; rfl
  | _ => rfl

theorem movV_quiet {e : Eff} (h : e.quiet = true) (nid : Nat) (x : AV) : movV true nid x e = x := by cases e <;> first | rfl | simp [Eff.quiet] at h
theorem movS_quiet {e : Eff} (h : e.quiet = true) (s : AState) (nid : Nat) : movS true s nid e = s.eff nid e := by cases e <;> first | rfl | simp [Eff.quiet] at h

/-- A quiet operation's step: what it yields and its effect. -/
def QStep (P : Program) (T : Tab) (s : AState) (nid : Nat) (o : Oper) (x : AV) (e : Eff) : Prop :=
  match o.op with
  | .call c => match c.callee with
    | .value f => ∃ g caps args r, (s.eval f = .fn g caps ∨ ∃ cs, s.eval f = .c (.fn g cs) ∧ caps = cs.map .c) ∧ snapArgs s (c.args.toList.map s.eval ++ caps) = some args ∧ ((c.args.toList.map s.eval ++ caps).all AV.closed = true ∨ r.plain = true) ∧
        Ret P g none args [] r ∧ x = r.av nid ∧ e = r.eff
    | _ => quietKind o.op = true ∧ aeff T s nid o.op = some (x, e)
  | _ => quietKind o.op = true ∧ aeff T s nid o.op = some (x, e)

theorem QStep.quiet {nid : Nat} {o : Oper} {x : AV} {e : Eff} (h : QStep P T s nid o x e) : e.quiet = true := by
  unfold QStep at h
  split at h
  · split at h
    · obtain ⟨g, caps, args, r, _, _, _, _, _, rfl⟩ := h
      cases r with
      | tup xs => simp only [RV.eff]; split <;> rfl
      | _ => rfl
    · exact aeff_quiet h.1 h.2
  · exact aeff_quiet h.1 h.2

theorem QStep.aop {nid : Nat} {o : Oper} {x : AV} {e : Eff} (h : QStep P T s nid o x e) {K : AV → AState → Prop} (hK : K x (s.eff nid e))   : aop true P T s nid o K := by
  unfold QStep at h
  unfold Fw.aop
  split at h
  · rename_i c ho
    split at h
    · rename_i f hf
      obtain ⟨g, caps, args, r, h1, h2, h3, h4, rfl, rfl⟩ := h
      rw [ret_eq] at hK
      have hc : acall true P s nid g (c.args.toList.map s.eval ++ caps) K := .inl (.inl ⟨args, r, h2, h3, h4, hK⟩)
      rcases h1 with h1 | ⟨cs, h1, rfl⟩
      · simp only [ho, hf, h1]; exact hc
      · simp only [ho, hf, h1]; exact hc
    · rename_i hnv
      obtain ⟨hq, he⟩ := h
      rw [ho] at he
      cases hcal : c.callee with
      | value f => exact absurd hcal (hnv f)
      | builtin b =>
        obtain ⟨cc, ar, at'⟩ := c
        simp only at hcal
        subst hcal
        have hqe := aeff_quiet (by rw [ho] at hq; exact hq) he
        simp only [ho, he, movV_quiet hqe, movS_quiet hqe]
        exact hK
      | invoke r m =>
        simp [aeff, hcal] at he
  · rename_i hn
    obtain ⟨hq, he⟩ := h
    cases hop : o.op <;> first
      | exact absurd hop (hn _)
      | (rw [hop] at he; simp only [he]; exact hK)

theorem QStep.of_aop {nid : Nat} {o : Oper} {K : AV → AState → Prop} (hq : quietKind o.op = true) (h : Fw.aop true P T s nid o K) : ∃ x e, QStep P T s nid o x e ∧ K x (s.eff nid e) := by
  unfold Fw.aop at h
  have hcall : ∀ (c : Call) f g caps, o.op = .call c → c.callee = .value f → (s.eval f = .fn g caps ∨ ∃ cs, s.eval f = .c (.fn g cs) ∧ caps = cs.map .c) → acall true P s nid g (c.args.toList.map s.eval ++ caps) K → ∃ x e, QStep P T s nid o x e ∧ K x (s.eff nid e) := by
    intro c f g caps ho hf h1 hc
    rcases hc with (⟨args, r, h2, h3, h4, h5⟩ | ⟨hc, _⟩ | ⟨hc, _⟩) | ⟨hc, _⟩
    · refine ⟨r.av nid, r.eff, ?_, by rw [ret_eq]; exact h5⟩
      unfold QStep
      simp only [ho, hf]
      exact ⟨g, caps, args, r, h1, h2, h3, h4, rfl, rfl⟩
    · cases hc
    · cases hc
    · cases hc
  split at h
  · rename_i c ho
    split at h
    · rename_i f hf
      split at h
      · exact hcall c f _ _ ho hf (.inl ‹_›) h
      · exact hcall c f _ _ ho hf (.inr ⟨_, ‹_›, rfl⟩) h
      · exact h.elim
    · rename_i b hb
      split at h
      · rename_i x e he
        have hqe := aeff_quiet (by rw [ho] at hq; cases c; simp only at hb; subst hb; exact hq) he
        rw [movV_quiet hqe, movS_quiet hqe] at h
        refine ⟨x, e, ?_, h⟩
        obtain ⟨cc, ar, at'⟩ := c
        simp only at hb
        subst hb
        unfold QStep
        simp only [ho]
        exact ⟨by rw [← ho]; exact hq, he⟩
      · exact h.elim
    · exact h.elim
  · rename_i hn
    split at h
    · rename_i x e he
      refine ⟨x, e, ?_, h⟩
      unfold QStep
      cases hop : o.op <;> first
        | exact absurd hop (hn _)
        | (simp only [hop] at he hq ⊢; exact ⟨hq, he⟩)
    · cases h.1

/-- What an operation looks at besides: nothing. -/
theorem QStep.congr (h : Agree U s t) {nid : Nat} {o : Oper} (hs : Same U s t o.op) {x : AV} {e : Eff} (hq : QStep P T s nid o x e) : QStep P T t nid o x e := by
  unfold QStep at hq ⊢
  split at hq
  · rename_i c ho
    split at hq
    · rename_i f hf
      obtain ⟨g, caps, args, r, h1, h2, h3, h4, h5, h6⟩ := hq
      have hs' := hs
      rw [ho] at hs'
      have e0 := hs'.eval f (by simp [Op.operands, Call.operands, hf])
      have l0 := hs'.lo f (by simp [Op.operands, Call.operands, hf])
      have e1 : c.args.toList.map s.eval = c.args.toList.map t.eval := map_eval fun x hx => hs'.eval x (by simp [Op.operands, Call.operands, hf] at hx ⊢; exact .inr hx)
      have l1 : ∀ y ∈ c.args.toList.map s.eval, y.lo U := map_lo' fun x hx => hs'.lo x (by simp [Op.operands, Call.operands, hf] at hx ⊢; exact .inr hx)
      have l2 : ∀ y ∈ caps, y.lo U := by
        rcases h1 with h1 | ⟨cs, h1, rfl⟩
        · rw [h1] at l0; simpa only [AV.lo] using l0
        · exact map_lo _
      refine ⟨g, caps, args, r, by rw [← e0]; exact h1, ?_, by rw [← e1]; exact h3, h4, h5, h6⟩
      rw [← e1, ← snapArgs_congr h _ (fun y hy => by
        rcases List.mem_append.1 hy with hy | hy
        · exact l1 y hy
        · exact l2 y hy)]
      exact h2
    · rename_i hnv
      refine ⟨hq.1, ?_⟩
      rw [← aeff_congr h.o hs hq.1]
      exact hq.2
  · rename_i hn
    refine ⟨hq.1, ?_⟩
    rw [← aeff_congr h.o hs hq.1]
    exact hq.2

end
end Go.Proofs.Ytnnpjblpiecfdaa.Fw
