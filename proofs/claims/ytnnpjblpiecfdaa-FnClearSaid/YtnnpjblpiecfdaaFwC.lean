/- What the abstract machine's quiet operations tell is what Go does. -/
import Derived.Test.YtnnpjblpiecfdaaFwB
namespace Go.Proofs.Ytnnpjblpiecfdaa.Fw
open Go.RowKit

section
variable {P : Program} {T : Tab} (hT : Tab.ok P T = true)

theorem Tab.desc_get {t : TypeId} {d : TD} (h : T.desc t = some d) : ∃ i, T.get t = some i ∧ i.d = d := by
  unfold Tab.desc at h
  split at h
  · rename_i i hi
    exact ⟨i, hi, by simpa using h⟩
  · cases h

include hT in
theorem Tab.desc_spec {t : TypeId} {d : TD} (h : T.desc t = some d) : ∃ d', P.underlying t = some d' ∧ d.fits d' = true := by
  obtain ⟨i, hi, rfl⟩ := Tab.desc_get h
  exact (Tab.get_spec hT hi).desc

include hT in
theorem desc_int {t : TypeId} {k : IntKind} (h : T.desc t = some (.int k)) : P.underlying t = some (.int k) := by
  obtain ⟨d', h1, h2⟩ := Tab.desc_spec hT h
  cases d' <;> simp [TD.fits] at h2
  rw [h1, h2]
include hT in
theorem desc_bool {t : TypeId} (h : T.desc t = some .bool) : P.underlying t = some .bool := by
  obtain ⟨d', h1, h2⟩ := Tab.desc_spec hT h
  cases d' <;> simp [TD.fits] at h2
  rw [h1]
include hT in
theorem desc_string {t : TypeId} (h : T.desc t = some .string) : P.underlying t = some .string := by
  obtain ⟨d', h1, h2⟩ := Tab.desc_spec hT h
  cases d' <;> simp [TD.fits] at h2
  rw [h1]
include hT in
theorem desc_slice {t e : TypeId} (h : T.desc t = some (.slice e)) : P.underlying t = some (.slice e) := by
  obtain ⟨d', h1, h2⟩ := Tab.desc_spec hT h
  cases d' <;> simp [TD.fits] at h2
  rw [h1, h2]
include hT in
theorem desc_array {t e : TypeId} {n : Nat} (h : T.desc t = some (.array n e)) : P.underlying t = some (.array n e) := by
  obtain ⟨d', h1, h2⟩ := Tab.desc_spec hT h
  cases d' <;> simp [TD.fits] at h2
  rw [h1, h2.1, h2.2]
include hT in
theorem desc_struct {t : TypeId} {fs : List (TypeId × Nat)} (h : T.desc t = some (.struct fs)) : ∃ fields, P.underlying t = some (.struct fields) ∧ fields.toList.map (fun f => (f.type, f.offset)) = fs := by
  obtain ⟨d', h1, h2⟩ := Tab.desc_spec hT h
  cases d' <;> simp [TD.fits] at h2
  exact ⟨_, h1, h2⟩

include hT in
theorem get_size {t : TypeId} {i : TI} (h : T.get t = some i) (w : World) : (sizeOf t).run P w = .ok i.size w := by
  obtain ⟨info, z, h1, h2, _⟩ := (Tab.get_spec hT h).info
  simp [sizeOf, typeInfo, h1, h2]

include hT in
theorem get_isAgg {t : TypeId} {i : TI} (h : T.get t = some i) (w : World) : (isAgg t).run P w = .ok i.d.isAgg w := by
  obtain ⟨d', h1, h2⟩ := (Tab.get_spec hT h).desc
  simp only [isAgg, Sem.run_bind, run_underlying h1, Result.andThen_ok]
  cases hd : i.d <;> rw [hd] at h2 <;> cases d' <;> simp [TD.fits] at h2 <;> rfl

variable {E : Entry} {s : AState} {a : Act} {w : World} {F : Nat → Prop} {B : Beta} {U : Nat → Prop}

theorem ofConst_rep (v : Value) : ARep w F B v (ofConst v) := by
  unfold ofConst
  split <;> first | exact .junk | exact .c .nil | exact .c (.v rfl)

theorem ofConst_lo (n : Nat → Prop) (v : Value) : (ofConst v).lo n := by
  unfold ofConst
  split <;> simp only [AV.lo]

theorem eval_rep (h : RelB E s a w F B U) (x : Operand) : ARep w F B (a.eval x) (s.eval x) := by
  cases x with
  | tmp t =>
    simp only [Act.eval, AState.eval, Array.getD_eq_getD_getElem?, List.getD_eq_getElem?_getD]
    rcases Nat.lt_or_ge t s.tmps.length with hl | hl
    · have ha : t < a.tmps.size := by rw [h.size]; exact hl
      rw [List.getElem?_eq_getElem hl, Array.getElem?_eq_getElem ha]
      exact h.tmps t _ _ (List.getElem?_eq_getElem hl) (Array.getElem?_eq_getElem ha)
    · rw [List.getElem?_eq_none hl]
      exact .junk
  | const v => exact ofConst_rep v
  | global g => exact .junk
  | func f => exact .fn rfl (fun i x v hx _ => by simp at hx)

theorem eval_lo (h : RelB E s a w F B U) (x : Operand) : (s.eval x).lo U := by
  cases x with
  | tmp t =>
    simp only [AState.eval, List.getD_eq_getElem?_getD]
    rcases Nat.lt_or_ge t s.tmps.length with hl | hl
    · rw [List.getElem?_eq_getElem hl]
      exact h.wfT _ (List.getElem_mem hl)
    · rw [List.getElem?_eq_none hl]
      simp only [Option.getD_none, AV.lo]
  | const v => exact ofConst_lo _ v
  | global g => simp only [AState.eval, AV.lo]
  | func f => simp [AState.eval, AV.lo]

theorem alive_B (h : RelB E s a w F B U) {l : Nat} (hl : s.alive l = true) : ∃ b n o, B l = some (b, n) ∧ s.objs l = some o ∧ ObjOk w F B b n o := by
  unfold AState.alive at hl
  cases ho : s.objs l with
  | none => rw [ho] at hl; cases hl
  | some o =>
    cases hb : B l with
    | none => have := (h.live l).1 hb; rw [ho] at this; cases this
    | some p => exact ⟨p.1, p.2, o, rfl, rfl, h.objs l p.1 p.2 o hb ho⟩

theorem obj_B (h : RelB E s a w F B U) {l : Nat} {o : AObj} (ho : s.objs l = some o) : ∃ b n, B l = some (b, n) ∧ ObjOk w F B b n o := by
  obtain ⟨b, n, o', hb, ho', hk⟩ := alive_B h (l := l) (by simp [AState.alive, ho])
  rw [ho] at ho'
  cases ho'
  exact ⟨b, n, hb, hk⟩

/-! atoms and their values -/
theorem rep_int {v : Value} {k : IntKind} {n : Int} (h : ARep w F B v (.c (.v (.int k n)))) : v = .int k n := by cases h with | c h => cases h; rfl
theorem rep_atom {v x : Value} (h : ARep w F B v (.c (.v x))) : v = x ∧ atomic x = true := by cases h with | c h => cases h with | v h => exact ⟨rfl, h⟩
theorem rep_v {v x : Value} (h : ARep w F B v (.c (.v x))) : v = x := (rep_atom h).1
theorem mk_v {x : Value} (h : atomic x = true) : ARep w F B x (.c (.v x)) := .c (.v h)

end
end Go.Proofs.Ytnnpjblpiecfdaa.Fw
