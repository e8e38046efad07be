/- A region that draws its order: one run in the text's order serves every order. -/
import Derived.Test.YtnnpjblpiecfdaaFwU
namespace Go.Proofs.Ytnnpjblpiecfdaa.Fw
open Go.RowKit
set_option linter.unusedVariables false
set_option linter.unusedSimpArgs false

/-- May the text's order stand for every order? M: who must have come before whom. -/
def okOne (ops : Array Oper) (M : List Nat) (i : Nat) (o : Oper) (k : Nat) : Bool :=
  (!(M.getD i 0).testBit k || o.after.toList.any fun e => Region.binds .any e && (e.on == k || (M.getD e.on 0).testBit k)) &&
  (!(decide (k < i)) || (M.getD i 0).testBit k || (match ops[k]? with | some p => p.apart ops o | none => true))

def okDraw (ops : Array Oper) (M : List Nat) : Bool :=
  (List.range ops.size).all fun i => match ops[i]? with
    | none => true
    | some o => quietKind o.op && (o.after.toList.all fun e => !Region.binds .any e || decide (e.on < i)) && (List.range ops.size).all fun k => okOne ops M i o k

def maskOf (M : List Nat) (o : Oper) : Nat := o.after.toList.foldl (fun s e => if Region.binds .any e then s ||| 2 ^ e.on ||| M.getD e.on 0 else s) 0
def masks : List Oper → List Nat → List Nat
  | [], M => M
  | o :: l, M => masks l (M ++ [maskOf M o])

def wantedA (ops : Array Oper) (s : AState) (o : Oper) : Option Bool :=
  match o.guard with
  | none => some true
  | some (j, want) => (ayield ops s j).map fun b => b == some want

def DStep (P : Program) (T : Tab) (ops : Array Oper) (base i : Nat) (s s1 : AState) : Prop :=
  ∃ o, ops[i]? = some o ∧ ((wantedA ops s o = some true ∧ ∃ x e, QStep P T s (base + i) o x e ∧ s1 = (s.eff (base + i) e).put o.dst x) ∨ (wantedA ops s o = some false ∧ s1 = s.put o.dst (.tup [])))

def DRun (P : Program) (T : Tab) (ops : Array Oper) (base : Nat) : List Nat → AState → AState → Prop
  | [], s, s' => s = s'
  | i :: L, s, s' => ∃ s1, DStep P T ops base i s s1 ∧ DRun P T ops base L s1 s'

section
variable {P : Program} {T : Tab} {E : Entry} {s t : AState} {a : Act} {w : World} {F : Nat → Prop} {B : Beta} {U : Nat → Prop} {ops : Array Oper} {base : Nat}

theorem olo_true (o : AObj) : o.lo (fun _ => True) := by
  cases o with
  | box t cells => exact fun x _ => lo_true x
  | arr e sz rows => trivial
  | brr e sz rows => exact fun _ _ x _ => lo_true x

/-- The counter of names counts for nothing. -/
theorem QStep.next {m nid : Nat} {o : Oper} {x : AV} {e : Eff} (h : QStep P T { s with next := m } nid o x e) : QStep P T s nid o x e :=
  QStep.congr (s := { s with next := m }) (t := s) (U := fun _ => True) ⟨fun _ _ => rfl, fun l o _ _ => olo_true o⟩ ⟨fun y _ => by cases y <;> rfl, fun y _ => lo_true _⟩ h

theorem put_tmps (s : AState) (dst : Option Tmp) (x : AV) : (s.put dst x).tmps = (match dst with | some d => s.tmps.set d x | none => s.tmps) := by cases dst <;> rfl
theorem put_objs (s : AState) (dst : Option Tmp) (x : AV) : (s.put dst x).objs = s.objs := by cases dst <;> rfl
theorem put_next (s : AState) (dst : Option Tmp) (x : AV) : (s.put dst x).next = s.next := by cases dst <;> rfl
theorem eff_tmps {e : Eff} (h : e.quiet = true) (s : AState) (nid : Nat) : (s.eff nid e).tmps = s.tmps := by cases e <;> first | rfl | simp [Eff.quiet] at h
theorem eff_next (e : Eff) (s : AState) (nid : Nat) : (s.eff nid e).next = s.next := by cases e <;> rfl
theorem eff_objs {e : Eff} (h : e.quiet = true) (s : AState) (nid l : Nat) (hl : l ≠ nid) : (s.eff nid e).objs l = s.objs l := by
  cases e <;> first
    | rfl
    | (simp [AState.eff, upd, hl]; done)
    | simp [Eff.quiet] at h

theorem state_ext {s t : AState} (h1 : s.tmps = t.tmps) (h2 : s.objs = t.objs) (h3 : s.next = t.next) : s = t := by
  cases s; cases t; simp_all

theorem DRun_of_arun (hq : ∀ (i : Nat) o, ops[i]? = some o → quietKind o.op = true) {K : AState → Prop} : ∀ (l : List Oper) (k : Nat) (s : AState), (∀ j, l[j]? = ops[k + j]?) → arun true P T ops l { s with next := base + k } K →
    ∃ s', DRun P T ops base (List.range' k l.length) s s' ∧ K { s' with next := base + k + l.length }
  | [], k, s, hl, h => ⟨s, rfl, by simpa [arun] using h⟩
  | o :: l, k, s, hl, h => by
    have ho : ops[k]? = some o := by have := hl 0; simpa using this.symm
    have hl' : ∀ j, l[j]? = ops[k + 1 + j]? := by
      intro j
      have := hl (j + 1)
      rw [List.getElem?_cons_succ] at this
      rw [this]; congr 1; omega
    have go : aop true P T { s with next := base + k } (base + k) o (fun x s' => arun true P T ops l ((s'.put o.dst x).bump) K) → wantedA ops s o = some true → ∃ s', DRun P T ops base (List.range' k (o :: l).length) s s' ∧ K { s' with next := base + k + (o :: l).length } := by
      intro h hw
      obtain ⟨x, e, h1, h2⟩ := QStep.of_aop (hq k o ho) h
      have hqe := h1.quiet
      have hs : ((({ s with next := base + k } : AState).eff (base + k) e).put o.dst x).bump = { ((s.eff (base + k) e).put o.dst x) with next := base + (k + 1) } := by
        refine state_ext ?_ ?_ ?_
        · simp only [AState.bump, put_tmps, eff_tmps hqe]
        · simp only [AState.bump, put_objs]
          cases e <;> first | rfl | simp [Eff.quiet] at hqe
        · simp only [AState.bump, put_next, eff_next]; omega
      rw [hs] at h2
      obtain ⟨s', h3, h4⟩ := DRun_of_arun hq l (k + 1) _ hl' h2
      refine ⟨s', ⟨_, ⟨o, ho, .inl ⟨hw, x, e, h1.next, rfl⟩⟩, h3⟩, ?_⟩
      rw [List.length_cons, show base + k + (l.length + 1) = base + (k + 1) + l.length by omega]
      exact h4
    have hay : ∀ j, ayield ops { s with next := base + k } j = ayield ops s j := fun j => rfl
    simp only [arun] at h
    split at h
    · rename_i hg
      exact go h (by simp [wantedA, hg])
    · rename_i j want hg
      rw [hay] at h
      split at h
      · rename_i b hb
        by_cases hbw : b = want
        · rw [if_pos hbw] at h
          exact go h (by simp [wantedA, hg, hb, hbw])
        · rw [if_neg hbw] at h
          have hs : (({ s with next := base + k } : AState).put o.dst (.tup [])).bump = { (s.put o.dst (.tup [])) with next := base + (k + 1) } := by
            refine state_ext ?_ ?_ ?_
            · simp only [AState.bump, put_tmps]
            · simp only [AState.bump, put_objs]
            · simp only [AState.bump, put_next]; omega
          rw [hs] at h
          obtain ⟨s', h3, h4⟩ := DRun_of_arun hq l (k + 1) _ hl' h
          refine ⟨s', ⟨_, ⟨o, ho, .inr ⟨by simp [wantedA, hg, hb, hbw], rfl⟩⟩, h3⟩, ?_⟩
          rw [List.length_cons, show base + k + (l.length + 1) = base + (k + 1) + l.length by omega]
          exact h4
      · exact h.elim

/-- What one step leaves is the same for an operation apart from it. -/
theorem step_agree {i : Nat} {s s1 : AState} (h : DStep P T ops base i s s1) (hn : ¬ U (base + i)) (hlo : ∀ l o, s.objs l = some o → U l ∧ o.lo U) : Agree U s s1 ∧ Agree U s1 s ∧ s1.next = s.next ∧
    ∀ o, ops[i]? = some o → ∀ t, o.dst ≠ some t → s1.tmps.getD t .junk = s.tmps.getD t .junk := by
  obtain ⟨o, ho, h⟩ := h
  have key : (∀ l, U l → s.objs l = s1.objs l) ∧ s1.next = s.next ∧ ∀ t, o.dst ≠ some t → s1.tmps.getD t .junk = s.tmps.getD t .junk := by
    rcases h with ⟨_, x, e, hq, rfl⟩ | ⟨_, rfl⟩
    · have hqe := hq.quiet
      refine ⟨fun l hl => ?_, by rw [put_next, eff_next], fun t ht => ?_⟩
      · rw [put_objs, eff_objs hqe _ _ _ (fun (e : l = base + i) => hn (e ▸ hl))]
      · rw [put_tmps, eff_tmps hqe]
        cases hd : o.dst with
        | none => rfl
        | some d =>
          have : d ≠ t := fun e => ht (by rw [hd, e])
          simp only [List.getD_eq_getElem?_getD, List.getElem?_set_ne this]
    · refine ⟨fun l hl => by rw [put_objs], by rw [put_next], fun t ht => ?_⟩
      rw [put_tmps]
      cases hd : o.dst with
      | none => rfl
      | some d =>
        have : d ≠ t := fun e => ht (by rw [hd, e])
        simp only [List.getD_eq_getElem?_getD, List.getElem?_set_ne this]
  obtain ⟨h1, h2, h3⟩ := key
  refine ⟨⟨h1, fun l o _ ho => (hlo l o ho).2⟩, ⟨fun l hl => (h1 l hl).symm, fun l o hl ho => ?_⟩, h2, fun o' ho' t ht => ?_⟩
  · rw [← h1 l hl] at ho
    exact (hlo l o ho).2
  · rw [ho] at ho'
    cases ho'
    exact h3 t ht

theorem looks_eval {s s1 : AState} {o : Oper} {d : Option Tmp} (h : ∀ t, d ≠ some t → s1.tmps.getD t .junk = s.tmps.getD t .junk) (ha : ∀ t, d = some t → t ∉ o.looksAt ops) : (∀ x ∈ o.op.operands.toList, s.eval x = s1.eval x) ∧ wantedA ops s o = wantedA ops s1 o := by
  constructor
  · intro x hx
    cases x with
    | tmp t =>
      simp only [AState.eval]
      refine (h t fun e => ha t e ?_).symm
      unfold Oper.looksAt
      exact List.mem_append_left _ (List.mem_filterMap.2 ⟨.tmp t, hx, rfl⟩)
    | _ => rfl
  · unfold wantedA
    cases hg : o.guard with
    | none => rfl
    | some p =>
      obtain ⟨j, want⟩ := p
      simp only
      congr 1
      unfold ayield
      cases hd : (ops[j]?).bind (·.dst) with
      | none => rfl
      | some t =>
        simp only
        rw [h t fun e => ha t e ?_]
        unfold Oper.looksAt
        refine List.mem_append_right _ ?_
        simp only [hg, hd]
        simp

theorem swap {k i : Nat} {s s1 s2 : AState} {ok oi : Oper} (hk : ops[k]? = some ok) (hi : ops[i]? = some oi) (hap : ok.apart ops oi = true) (hki : k ≠ i) (hr : RelB E s a w F B U) (hnk : ¬ U (base + k)) (hni : ¬ U (base + i))
    (h1 : DStep P T ops base k s s1) (h2 : DStep P T ops base i s1 s2) : ∃ s1', DStep P T ops base i s s1' ∧ DStep P T ops base k s1' s2 := by
  obtain ⟨ha1, ha2, ha3⟩ := Oper.apart_spec hap
  obtain ⟨g1, g2, g3, g4⟩ := step_agree h1 hnk hr.wfO
  obtain ⟨ev, wv⟩ := looks_eval (s := s) (s1 := s1) (o := oi) (d := ok.dst) (g4 ok hk) ha1
  have loi : ∀ x ∈ oi.op.operands.toList, (s.eval x).lo U := fun x _ => eval_lo hr x
  -- operation i in the first state
  have hi1 : ∃ s1', DStep P T ops base i s s1' ∧ ((∃ x e, e.quiet = true ∧ s1' = (s.eff (base + i) e).put oi.dst x ∧ s2 = (s1.eff (base + i) e).put oi.dst x) ∨ (s1' = s.put oi.dst (.tup []) ∧ s2 = s1.put oi.dst (.tup []))) := by
    obtain ⟨o, ho, h2⟩ := h2
    rw [hi] at ho
    cases ho
    rcases h2 with ⟨hw, x, e, hq, rfl⟩ | ⟨hw, rfl⟩
    · refine ⟨_, ⟨oi, hi, .inl ⟨by rw [wv]; exact hw, x, e, hq.congr g2 ⟨fun y hy => (ev y hy).symm, fun y hy => by rw [← ev y hy]; exact loi y hy⟩, rfl⟩⟩, .inl ⟨x, e, hq.quiet, rfl, rfl⟩⟩
    · exact ⟨_, ⟨oi, hi, .inr ⟨by rw [wv]; exact hw, rfl⟩⟩, .inr ⟨rfl, rfl⟩⟩
  obtain ⟨s1', hd1, hs⟩ := hi1
  refine ⟨s1', hd1, ?_⟩
  obtain ⟨q1, q2, q3, q4⟩ := step_agree hd1 hni hr.wfO
  obtain ⟨ev', wv'⟩ := looks_eval (s := s) (s1 := s1') (o := ok) (d := oi.dst) (q4 oi hi) ha3
  obtain ⟨o, ho, h1⟩ := h1
  rw [hk] at ho
  cases ho
  refine ⟨ok, hk, ?_⟩
  have hset : ∀ (l : List AV) (x y : AV), (match oi.dst with | some d => (match ok.dst with | some d => l.set d x | none => l).set d y | none => (match ok.dst with | some d => l.set d x | none => l)) = (match ok.dst with | some d => (match oi.dst with | some d => l.set d y | none => l).set d x | none => (match oi.dst with | some d => l.set d y | none => l)) := by
    intro l x y
    cases hdk : ok.dst with
    | none => cases oi.dst <;> rfl
    | some dk =>
      cases hdi : oi.dst with
      | none => rfl
      | some di =>
        have : dk ≠ di := fun e => ha2 dk hdk (by rw [hdi, e])
        exact List.set_comm _ _ this
  have hb : base + k ≠ base + i := by omega
  have hobj : ∀ (e e' : Eff), e.quiet = true → e'.quiet = true → ∀ (q : AState → AState) (q' : AState → AState), (∀ s, (q s).objs = s.objs) → (∀ s, (q' s).objs = s.objs) → ((q (s.eff (base + k) e)).eff (base + i) e').objs = ((q' (s.eff (base + i) e')).eff (base + k) e).objs := by
    intro e e' he he' q q' hq hq'
    funext l
    cases e <;> cases e' <;> simp_all [Eff.quiet, AState.eff] <;> unfold upd <;> (try split) <;> (try split) <;> simp_all
  rcases h1 with ⟨hw, x, e, hq, rfl⟩ | ⟨hw, rfl⟩
  · refine .inl ⟨by rw [← wv']; exact hw, x, e, hq.congr q1 ⟨ev', fun y _ => eval_lo hr y⟩, ?_⟩
    rcases hs with ⟨y, e', he', rfl, rfl⟩ | ⟨rfl, rfl⟩
    · refine state_ext ?_ ?_ ?_
      · simp only [put_tmps, eff_tmps he', eff_tmps hq.quiet, hset]
      · simp only [put_objs]
        exact hobj e e' hq.quiet he' (fun s => s.put ok.dst x) (fun s => s.put oi.dst y) (fun s => put_objs _ _ _) (fun s => put_objs _ _ _)
      · simp only [put_next, eff_next]
    · refine state_ext ?_ ?_ ?_
      · simp only [put_tmps, eff_tmps hq.quiet, hset]
      · simp only [put_objs]
        cases e <;> first | rfl | (simp [AState.eff, put_objs]; done) | simp [QStep.quiet] | (have := hq.quiet; simp [Eff.quiet] at this)
      · simp only [put_next, eff_next]
  · refine .inr ⟨by rw [← wv']; exact hw, ?_⟩
    rcases hs with ⟨y, e', he', rfl, rfl⟩ | ⟨rfl, rfl⟩
    · refine state_ext ?_ ?_ ?_
      · simp only [put_tmps, eff_tmps he', hset]
      · simp only [put_objs]
        cases e' <;> first | rfl | (simp [AState.eff, put_objs]; done) | simp [Eff.quiet] at he'
      · simp only [put_next, eff_next]
    · refine state_ext ?_ ?_ ?_
      · simp only [put_tmps, hset]
      · simp only [put_objs]
      · simp only [put_next]

end
end Go.Proofs.Ytnnpjblpiecfdaa.Fw
