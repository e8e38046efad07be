/- A region that draws its order and writes: one run in the text's order serves every order, where what is written is not touched by what is not ordered to it. -/
import Derived.Test.YtnnpjblpiecfdaaFwX
namespace Go.Proofs.Ytnnpjblpiecfdaa.Fw
open Go.RowKit
set_option linter.unusedVariables false
set_option linter.unusedSimpArgs false

def isApp : Op → Bool
  | .call c => match c.callee with
    | .builtin .append => true
    | _ => false
  | _ => false
def isStore : Op → Bool
  | .store .. => true
  | _ => false
def isVal : Op → Bool
  | .call c => match c.callee with
    | .value _ => true
    | _ => false
  | _ => false
def drawKind (op : Op) : Bool := quietKind op || isStore op || isApp op
/-- The operations that look at no object. -/
def blindKind : Op → Bool
  | .move _ | .assign _ | .pick .. | .unOp .. | .convert .. | .field .. | .index .. | .extract .. | .makeSlice .. | .alloc _ => true
  | _ => false

inductive LEff where
  | q (e : Eff)
  | put (l : Nat) (o : AObj)
  | mov (l : Nat) (o : AObj)
def LEff.w : LEff → Option Nat
  | .q _ => none
  | .put l _ => some l
  | .mov l _ => some l
def LEff.ok : LEff → Bool
  | .q e => e.quiet
  | _ => true
def AState.leff (s : AState) (nid : Nat) : LEff → AState
  | .q e => s.eff nid e
  | .put l o => s.eff nid (.put l o)
  | .mov l o => s.mov nid l o
def LEff.on (nid : Nat) : LEff → (Nat → Option AObj) → (Nat → Option AObj)
  | .q (.new o), ob => upd ob nid (some o)
  | .q _, ob => ob
  | .put l o, ob => upd ob l (some o)
  | .mov l o, ob => upd (upd ob l none) nid (some o)

def refOf : AV → Option Nat
  | .ref l _ => some l
  | .eref l _ _ _ => some l
  | .lsl l _ _ _ => some l
  | _ => none
def targetV (op : Op) (vals : List AV) : Option Nat := if isStore op || isApp op then (match vals with | v :: _ => refOf v | [] => none) else none

def LStep (P : Program) (T : Tab) (s : AState) (nid : Nat) (o : Oper) (x : AV) : LEff → Prop
  | .q e => e.quiet = true ∧ ((quietKind o.op = true ∧ QStep P T s nid o x e) ∨ (isApp o.op = true ∧ aeff T s nid o.op = some (x, e)))
  | .put l ob => isStore o.op = true ∧ aeff T s nid o.op = some (x, .put l ob)
  | .mov l ob => isApp o.op = true ∧ ∃ z n m, aeff T s nid o.op = some (.lsl l z n m, .app l ob) ∧ x = .lsl nid z n m

section
variable {P : Program} {T : Tab} {E : Entry} {s t : AState} {a : Act} {w : World} {F : Nat → Prop} {B : Beta} {U : Nat → Prop} {ops : Array Oper} {base : Nat}

theorem LStep.ok {nid : Nat} {o : Oper} {x : AV} {le : LEff} (h : LStep P T s nid o x le) : le.ok = true := by
  cases le with
  | q e => exact h.1
  | _ => rfl
theorem leff_tmps {le : LEff} (h : le.ok = true) (s : AState) (nid : Nat) : (s.leff nid le).tmps = s.tmps := by
  cases le with
  | q e => exact eff_tmps h s nid
  | _ => rfl
theorem leff_next (le : LEff) (s : AState) (nid : Nat) : (s.leff nid le).next = s.next := by
  cases le with
  | q e => exact eff_next e s nid
  | _ => rfl
theorem leff_on {le : LEff} (h : le.ok = true) (s : AState) (nid : Nat) : (s.leff nid le).objs = le.on nid s.objs := by
  cases le with
  | q e => cases e <;> first | rfl | simp [LEff.ok, Eff.quiet] at h
  | _ => rfl
theorem on_same {le : LEff} {nid m : Nat} {ob : Nat → Option AObj} (h1 : m ≠ nid) (h2 : le.w ≠ some m) : le.on nid ob m = ob m := by
  cases le with
  | q e => cases e <;> simp [LEff.on, upd, h1]
  | put l o => simp only [LEff.w, ne_eq, Option.some.injEq] at h2; simp [LEff.on, upd, Ne.symm h2]
  | mov l o => simp only [LEff.w, ne_eq, Option.some.injEq] at h2; simp [LEff.on, upd, Ne.symm h2, h1]
theorem on_comm {lk li : LEff} {nk ni : Nat} {ob : Nat → Option AObj} (hn : nk ≠ ni) (h1 : li.w ≠ some nk) (h2 : lk.w ≠ some ni) (h3 : ∀ l, lk.w = some l → li.w ≠ some l) : li.on ni (lk.on nk ob) = lk.on nk (li.on ni ob) := by
  funext m
  cases lk with
  | q e =>
    cases e <;> cases li with
    | q e' => cases e' <;> simp only [LEff.on, upd] <;> (repeat' split) <;> simp_all
    | put l o => simp only [LEff.on, upd, LEff.w, ne_eq, Option.some.injEq] at * <;> (repeat' split) <;> simp_all
    | mov l o => simp only [LEff.on, upd, LEff.w, ne_eq, Option.some.injEq] at * <;> (repeat' split) <;> simp_all
  | put l' o' =>
    cases li with
    | q e' => cases e' <;> simp only [LEff.on, upd, LEff.w, ne_eq, Option.some.injEq] at * <;> (repeat' split) <;> simp_all
    | put l o => have := h3 l' rfl; simp only [LEff.on, upd, LEff.w, ne_eq, Option.some.injEq] at * <;> (repeat' split) <;> simp_all
    | mov l o => have := h3 l' rfl; simp only [LEff.on, upd, LEff.w, ne_eq, Option.some.injEq] at * <;> (repeat' split) <;> simp_all
  | mov l' o' =>
    cases li with
    | q e' => cases e' <;> simp only [LEff.on, upd, LEff.w, ne_eq, Option.some.injEq] at * <;> (repeat' split) <;> simp_all
    | put l o => have := h3 l' rfl; simp only [LEff.on, upd, LEff.w, ne_eq, Option.some.injEq] at * <;> (repeat' split) <;> simp_all
    | mov l o => have := h3 l' rfl; simp only [LEff.on, upd, LEff.w, ne_eq, Option.some.injEq] at * <;> (repeat' split) <;> simp_all

theorem store_op {op : Op} (h : isStore op = true) : ∃ t p x, op = .store t p x := by
  cases op <;> simp [isStore] at h
  exact ⟨_, _, _, rfl⟩
theorem app_op {op : Op} (h : isApp op = true) : ∃ c, op = .call c ∧ c.callee = .builtin .append := by
  cases op <;> simp only [isApp] at h <;> first | (simp at h; done) | skip
  rename_i c
  refine ⟨c, rfl, ?_⟩
  cases hc : c.callee with
  | builtin b => rw [hc] at h; cases b <;> simp at h <;> rfl
  | _ => rw [hc] at h; simp at h

theorem store_form {nid : Nat} {ty : TypeId} {p y : Operand} {x : AV} {e : Eff} (h : aeff T s nid (.store ty p y) = some (x, e)) : ∃ l ob, e = .put l ob ∧ refOf (s.eval p) = some l := by
  simp only [aeff] at h
  split at h
  · split at h
    · split at h
      · split at h
        · rename_i l o hw
          cases h
          refine ⟨_, _, rfl, ?_⟩
          unfold writeAt at hw
          split at hw
          · rename_i heq
            split at hw
            · split at hw
              · cases hw; simp [refOf, heq]
              · cases hw
            · cases hw
          · rename_i heq
            split at hw
            · split at hw
              · split at hw
                · split at hw
                  · split at hw
                    · cases hw; simp [refOf, heq]
                    · cases hw
                  · cases hw
                · cases hw
              · cases hw
            · split at hw
              · split at hw
                · split at hw
                  · cases hw; simp [refOf, heq]
                  · cases hw
                · cases hw
              · cases hw
            · cases hw
          · cases hw
        · cases h
      · cases h
    · cases h
  · cases h

theorem app_form {nid : Nat} {c : Call} (hc : c.callee = .builtin .append) {x : AV} {e : Eff} (h : aeff T s nid (.call c) = some (x, e)) : e.quiet = true ∨ ∃ l z m ob, x = .lsl l z 0 m ∧ e = .app l ob ∧ ∃ v vs, c.args.toList.map s.eval = v :: vs ∧ refOf v = some l := by
  simp only [aeff, hc] at h
  split at h
  · rename_i t u x' y' h1 h2
    split at h
    · rcases aappend_forms h with (rfl | ⟨o, rfl⟩) | ⟨l, sz, off, n, el, rows, rows', _, hx, ⟨m, rfl⟩, _, rfl⟩
      · exact .inl rfl
      · exact .inl rfl
      · exact .inr ⟨l, sz, m, _, rfl, rfl, s.eval x', [s.eval y'], by simp [h2], by simp [hx, refOf]⟩
    · cases h
  · cases h

theorem LStep.of_aop {nid : Nat} {o : Oper} {K : AV → AState → Prop} (hq : drawKind o.op = true) (h : Fw.aop true P T s nid o K) : ∃ x le, LStep P T s nid o x le ∧ K x (s.leff nid le) := by
  by_cases h1 : quietKind o.op = true
  · obtain ⟨x, e, h2, h3⟩ := QStep.of_aop h1 h
    exact ⟨x, .q e, ⟨h2.quiet, .inl ⟨h1, h2⟩⟩, h3⟩
  · by_cases h2 : isStore o.op = true
    · obtain ⟨t, p, y, hop⟩ := store_op h2
      unfold Fw.aop at h
      simp only [hop] at h
      split at h
      · rename_i x e he
        obtain ⟨l, ob, rfl, _⟩ := store_form he
        exact ⟨x, .put l ob, ⟨h2, by rw [hop]; exact he⟩, h⟩
      · cases h.1
    · have h3 : isApp o.op = true := by
        simp only [drawKind, Bool.or_eq_true] at hq
        rcases hq with (hq | hq) | hq
        · exact absurd hq h1
        · exact absurd hq h2
        · exact hq
      obtain ⟨c, hop, hc⟩ := app_op h3
      unfold Fw.aop at h
      simp only [hop, hc] at h
      split at h
      · rename_i x e he
        have he' : aeff T s nid (.call c) = some (x, e) := by
          rw [← he]; cases c; simp only at hc; subst hc; rfl
        rcases app_form hc he' with hqe | ⟨l, z, m, ob, rfl, rfl, _⟩
        · rw [movV_quiet hqe, movS_quiet hqe] at h
          exact ⟨x, .q e, ⟨hqe, .inr ⟨h3, by rw [hop]; exact he'⟩⟩, h⟩
        · exact ⟨_, .mov l ob, ⟨h3, z, 0, m, by rw [hop]; exact he', rfl⟩, h⟩
      · exact h.elim

theorem LStep.aop {nid : Nat} {o : Oper} {x : AV} {le : LEff} (h : LStep P T s nid o x le) {K : AV → AState → Prop} (hK : K x (s.leff nid le)) : aop true P T s nid o K := by
  cases le with
  | q e =>
    obtain ⟨hqe, ⟨_, h1⟩ | ⟨h1, h2⟩⟩ := h
    · exact h1.aop hK
    · obtain ⟨c, hop, hc⟩ := app_op h1
      rw [hop] at h2
      have he : aeff T s nid (.call { c with callee := .builtin .append }) = some (x, e) := by
        rw [← h2]; cases c; simp only at hc; subst hc; rfl
      unfold Fw.aop
      simp only [hop, hc, he, movV_quiet hqe, movS_quiet hqe]
      exact hK
  | put l ob =>
    obtain ⟨h1, h2⟩ := h
    obtain ⟨t, p, y, hop⟩ := store_op h1
    rw [hop] at h2
    unfold Fw.aop
    simp only [hop, h2]
    exact hK
  | mov l ob =>
    obtain ⟨h1, z, n, m, h2, rfl⟩ := h
    obtain ⟨c, hop, hc⟩ := app_op h1
    rw [hop] at h2
    have he : aeff T s nid (.call { c with callee := .builtin .append }) = some (.lsl l z n m, .app l ob) := by
      rw [← h2]; cases c; simp only at hc; subst hc; rfl
    unfold Fw.aop
    simp only [hop, hc, he]
    exact hK

theorem LStep.target {nid : Nat} {o : Oper} {x : AV} {le : LEff} (h : LStep P T s nid o x le) {l : Nat} (hw : le.w = some l) : targetV o.op (o.op.operands.toList.map s.eval) = some l := by
  cases le with
  | q e => cases hw
  | put l' ob =>
    cases hw
    obtain ⟨h1, h2⟩ := h
    obtain ⟨t, p, y, hop⟩ := store_op h1
    rw [hop] at h2
    obtain ⟨l2, ob2, h3, h4⟩ := store_form h2
    cases h3
    simp [targetV, hop, isStore, Op.operands, h4]
  | mov l' ob =>
    cases hw
    obtain ⟨h1, z, n, m, h2, rfl⟩ := h
    obtain ⟨c, hop, hc⟩ := app_op h1
    rw [hop] at h2
    rcases app_form hc h2 with hqe | ⟨l2, z2, m2, ob2, h3, h4, v, vs, h5, h6⟩
    · simp [Eff.quiet] at hqe
    · cases h4
      have : o.op.operands.toList = c.args.toList := by simp [hop, Op.operands, Call.operands, hc]
      simp only [targetV, h1, Bool.or_true, if_true, this, h5, h6]

theorem refOf_lo {v : AV} {l : Nat} {V : Nat → Prop} (h : refOf v = some l) (hv : v.lo V) : V l := by
  cases v <;> simp only [refOf, Option.some.injEq, reduceCtorEq] at h <;> subst h <;> simpa only [AV.lo] using hv
theorem target_lo {op : Op} {vals : List AV} {l : Nat} {V : Nat → Prop} (h : targetV op vals = some l) (hv : ∀ x ∈ vals, x.lo V) : V l := by
  unfold targetV at h
  split at h
  · split at h
    · exact refOf_lo h (hv _ List.mem_cons_self)
    · cases h
  · cases h

theorem cellsOf_lo {x : AV} {cs : List AV} (h : cellsOf s x = some cs) (hx : x.lo U) : ∀ y ∈ cs, y.lo U := by
  cases x <;> simp only [cellsOf] at h
  case agg l => cases h; simpa only [AV.lo] using hx
  all_goals first
    | (cases h; intro y hy; simp only [List.mem_singleton] at hy; subst hy; exact hx)
    | (split at h <;> first | (cases h; intro y hy; simp only [List.mem_singleton] at hy; subst hy; exact hx) | cases h)
    | cases h
theorem one_congr (h : AgreeO U s t) {x : AV} (hx : x.lo U) : x.one s = x.one t := by
  cases x with
  | ref l off => simp only [AV.lo] at hx; simp only [AV.one, h.alive hx]
  | eref l sz k off => simp only [AV.lo] at hx; simp only [AV.one, h.alive hx]
  | lsl l sz off len => simp only [AV.lo] at hx; simp only [AV.one, h.alive hx]
  | _ => rfl
theorem writeAt_congr (h : AgreeO U s t) (cs : List AV) {x : AV} (hx : x.lo U) : writeAt s cs x = writeAt t cs x := by
  cases x with
  | ref l off => simp only [AV.lo] at hx; simp only [writeAt, h.objs _ hx]
  | eref l sz i off => simp only [AV.lo] at hx; simp only [writeAt, h.objs _ hx]
  | _ => rfl
theorem rowsIn_congr (h : AgreeO U s t) (sz : Nat) {x : AV} (hx : x.lo U) : rowsIn s sz x = rowsIn t sz x := by
  cases x with
  | lsl l sz off len => simp only [AV.lo] at hx; simp only [rowsIn, h.objs _ hx]
  | c y => cases y <;> rfl
  | _ => rfl
theorem aappend_congr (h : AgreeO U s t) (nid : Nat) (ty : TypeId) {x y : AV} (hx : x.lo U) (hy : y.lo U) : aappend T s nid ty x y = aappend T t nid ty x y := by
  unfold aappend
  split <;> try rfl
  split <;> try rfl
  rw [rowsIn_congr h _ hx, rowsIn_congr h _ hy]
  split <;> try rfl
  split <;> try rfl
  cases x with
  | lsl l sz off len => simp only [AV.lo] at hx; simp only [h.objs _ hx]
  | c y => cases y <;> rfl
  | _ => rfl

theorem aeff_congrL (h : AgreeO U s t) {op : Op} (hs : Same U s t op) (hd : drawKind op = true) (nid : Nat) : aeff T s nid op = aeff T t nid op := by
  by_cases h1 : quietKind op = true
  · exact aeff_congr h hs h1 nid
  · by_cases h2 : isStore op = true
    · obtain ⟨ty, p, y, rfl⟩ := store_op h2
      have ep := hs.eval p (by simp [Op.operands])
      have ey := hs.eval y (by simp [Op.operands])
      have lp := hs.lo p (by simp [Op.operands])
      have ly := hs.lo y (by simp [Op.operands])
      rw [ep] at lp
      rw [ey] at ly
      simp only [aeff, ep, ey, cellsOf_congr h ly]
      cases T.get ty with
      | none => rfl
      | some i =>
        simp only
        cases hc : cellsOf t (t.eval y) with
        | none => rfl
        | some cs =>
          simp only
          have hall : (cs.all fun y => y.one s) = (cs.all fun y => y.one t) := by
            have hlo := cellsOf_lo hc ly
            rw [Bool.eq_iff_iff, List.all_eq_true, List.all_eq_true]
            exact ⟨fun g x hx => by rw [← one_congr h (hlo x hx)]; exact g x hx, fun g x hx => by rw [one_congr h (hlo x hx)]; exact g x hx⟩
          simp only [hall, writeAt_congr h cs lp]
    · have h3 : isApp op = true := by
        simp only [drawKind, Bool.or_eq_true] at hd
        rcases hd with (hq | hq) | hq
        · exact absurd hq h1
        · exact absurd hq h2
        · exact hq
      obtain ⟨c, rfl, hc⟩ := app_op h3
      simp only [aeff, hc]
      have hev : ∀ x ∈ c.args.toList, s.eval x = t.eval x := fun x hx => hs.eval x (by simp [Op.operands, Call.operands, hc] at hx ⊢; exact hx)
      have hlo : ∀ x ∈ c.args.toList, (s.eval x).lo U := fun x hx => hs.lo x (by simp [Op.operands, Call.operands, hc] at hx ⊢; exact hx)
      split
      · rename_i t' u x y h5 h6
        split
        · rw [h6] at hev hlo
          rw [← hev x (by simp), ← hev y (by simp)]
          exact aappend_congr h nid t' (hlo x (by simp)) (hlo y (by simp))
        · rfl
      · rfl

theorem blind_quiet {op : Op} (h : blindKind op = true) : quietKind op = true ∧ isApp op = false ∧ isStore op = false ∧ isVal op = false := by
  cases op <;> simp_all [blindKind, quietKind, isApp, isStore, isVal]
theorem aeff_blind {op : Op} (h : blindKind op = true) (ev : ∀ x ∈ op.operands.toList, s.eval x = t.eval x) (nid : Nat) : aeff T s nid op = aeff T t nid op := by
  cases op <;> simp only [blindKind, Bool.false_eq_true] at h <;> simp only [Op.operands, List.mem_cons, List.not_mem_nil, or_false, forall_eq_or_imp, forall_eq] at ev <;> simp only [aeff, apure, ev]

theorem QStep_plain {nid : Nat} {o : Oper} {x : AV} {e : Eff} (hv : isVal o.op = false) : QStep P T s nid o x e ↔ quietKind o.op = true ∧ aeff T s nid o.op = some (x, e) := by
  unfold QStep
  split
  · rename_i c ho
    split
    · rename_i f hf
      simp [isVal, ho, hf] at hv
    · exact Iff.rfl
  · exact Iff.rfl

theorem LStep.congr (h : AgreeO U s t) (hc : ∀ l o, U l → s.objs l = some o → o.lo U) {nid : Nat} {o : Oper} (hs : Same U s t o.op) {x : AV} {le : LEff} (hq : LStep P T s nid o x le) : LStep P T t nid o x le := by
  cases le with
  | q e =>
    obtain ⟨hqe, ⟨g1, g2⟩ | ⟨g1, g2⟩⟩ := hq
    · exact ⟨hqe, .inl ⟨g1, g2.congr ⟨h.objs, hc⟩ hs⟩⟩
    · exact ⟨hqe, .inr ⟨g1, by rw [← aeff_congrL h hs (by simp [drawKind, g1])]; exact g2⟩⟩
  | put l ob => exact ⟨hq.1, by rw [← aeff_congrL h hs (by simp [drawKind, hq.1])]; exact hq.2⟩
  | mov l ob =>
    obtain ⟨g1, z, n, m, g2, g3⟩ := hq
    exact ⟨g1, z, n, m, by rw [← aeff_congrL h hs (by simp [drawKind, g1])]; exact g2, g3⟩
theorem LStep.congr' (h : AgreeO U s t) {nid : Nat} {o : Oper} (hv : isVal o.op = false) (hs : Same U s t o.op) {x : AV} {le : LEff} (hq : LStep P T s nid o x le) : LStep P T t nid o x le := by
  cases le with
  | q e =>
    obtain ⟨hqe, ⟨g1, g2⟩ | ⟨g1, g2⟩⟩ := hq
    · refine ⟨hqe, .inl ⟨g1, ?_⟩⟩
      rw [QStep_plain hv] at g2 ⊢
      rw [← aeff_congr h hs g1]
      exact g2
    · exact ⟨hqe, .inr ⟨g1, by rw [← aeff_congrL h hs (by simp [drawKind, g1])]; exact g2⟩⟩
  | put l ob => exact ⟨hq.1, by rw [← aeff_congrL h hs (by simp [drawKind, hq.1])]; exact hq.2⟩
  | mov l ob =>
    obtain ⟨g1, z, n, m, g2, g3⟩ := hq
    exact ⟨g1, z, n, m, by rw [← aeff_congrL h hs (by simp [drawKind, g1])]; exact g2, g3⟩
theorem LStep.blind {nid : Nat} {o : Oper} (hb : blindKind o.op = true) (ev : ∀ x ∈ o.op.operands.toList, s.eval x = t.eval x) {x : AV} {le : LEff} (hq : LStep P T s nid o x le) : LStep P T t nid o x le := by
  obtain ⟨b1, b2, b3, b4⟩ := blind_quiet hb
  cases le with
  | q e =>
    obtain ⟨hqe, ⟨g1, g2⟩ | ⟨g1, g2⟩⟩ := hq
    · refine ⟨hqe, .inl ⟨g1, ?_⟩⟩
      rw [QStep_plain b4] at g2 ⊢
      rw [← aeff_blind hb ev]
      exact g2
    · rw [b2] at g1; cases g1
  | put l ob => have h1 := hq.1; rw [b3] at h1; cases h1
  | mov l ob => have h1 := hq.1; rw [b2] at h1; cases h1

/-- A step, done in a state that differs in new objects and in one that is written. -/
theorem LStep.move {o : Oper} {x : AV} {le : LEff} {nid : Nat} {wr : Option Nat} (hobj : ∀ m, U m → wr ≠ some m → s.objs m = t.objs m) (hcl : wr = none → ∀ l ob, U l → s.objs l = some ob → ob.lo U)
    (ev : ∀ x ∈ o.op.operands.toList, s.eval x = t.eval x) (hlo : ∀ x ∈ o.op.operands.toList, (s.eval x).lo U)
    (ht : ∀ l, wr = some l → blindKind o.op = true ∨ ∀ x ∈ o.op.operands.toList, (s.eval x).lo (if isVal o.op = true then fun _ => False else fun m => m ≠ l)) (h : LStep P T s nid o x le) : LStep P T t nid o x le := by
  cases wr with
  | none => exact h.congr ⟨fun m hm => hobj m hm (by simp)⟩ (hcl rfl) ⟨ev, hlo⟩
  | some l =>
    rcases ht l rfl with hb | hb
    · exact h.blind hb ev
    · by_cases hv : isVal o.op = true
      · simp only [hv, if_true] at hb
        exact h.congr (U := fun _ => False) ⟨fun m hm => hm.elim⟩ (fun _ _ hm => hm.elim) ⟨ev, hb⟩
      · simp only [hv, Bool.false_eq_true, if_false] at hb
        exact h.congr' (U := fun m => U m ∧ m ≠ l) ⟨fun m hm => hobj m hm.1 (by simpa using Ne.symm hm.2)⟩ (by simpa using hv) ⟨ev, fun y hy => lo_and _ (hlo y hy) (hb y hy)⟩

end
end Go.Proofs.Ytnnpjblpiecfdaa.Fw
