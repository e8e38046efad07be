/- Every order of a region that draws and writes. -/
import Derived.Test.YtnnpjblpiecfdaaFwVb
namespace Go.Proofs.Ytnnpjblpiecfdaa.Fw
open Go.RowKit
set_option linter.unusedVariables false
set_option linter.unusedSimpArgs false

/-- What is remembered of an operation: its operands' values, and what it wrote. -/
structure Lab where
  vals : List AV
  w : Option Nat

def LDStep (P : Program) (T : Tab) (ops : Array Oper) (base : Nat) (lab : Nat → Lab) (i : Nat) (s s1 : AState) : Prop :=
  ∃ o, ops[i]? = some o ∧ ((wantedA ops s o = some true ∧ ∃ x le, LStep P T s (base + i) o x le ∧ s1 = (s.leff (base + i) le).put o.dst x ∧ lab i = ⟨o.op.operands.toList.map s.eval, le.w⟩) ∨ (wantedA ops s o = some false ∧ s1 = s.put o.dst (.tup []) ∧ lab i = ⟨[], none⟩))

def LRun (P : Program) (T : Tab) (ops : Array Oper) (base : Nat) (lab : Nat → Lab) : List Nat → AState → AState → Prop
  | [], s, s' => s = s'
  | i :: L, s, s' => ∃ s1, LDStep P T ops base lab i s s1 ∧ LRun P T ops base lab L s1 s'

def touch (o : Oper) (L : Lab) (l : Nat) : Prop := blindKind o.op = true ∨ ∀ x ∈ L.vals, x.lo (if isVal o.op = true then fun _ => False else fun m => m ≠ l)
/-- Neither touches what the other one writes. -/
def Indep (ok oi : Oper) (lk li : Lab) : Prop := (∀ l, lk.w = some l → touch oi li l) ∧ (∀ l, li.w = some l → touch ok lk l)

section
variable {P : Program} {T : Tab} {E : Entry} {s t : AState} {a : Act} {w : World} {F : Nat → Prop} {B : Beta} {U : Nat → Prop} {ops : Array Oper} {base : Nat} {lab : Nat → Lab}

theorem lstep_agree {i : Nat} {s s1 : AState} (h : LDStep P T ops base lab i s s1) : (∀ m, m ≠ base + i → (lab i).w ≠ some m → s.objs m = s1.objs m) ∧ s1.next = s.next ∧
    ∀ o, ops[i]? = some o → ∀ t, o.dst ≠ some t → s1.tmps.getD t .junk = s.tmps.getD t .junk := by
  obtain ⟨o, ho, h⟩ := h
  rcases h with ⟨_, x, le, hq, rfl, hl⟩ | ⟨_, rfl, hl⟩
  · refine ⟨fun m hm hw => ?_, by rw [put_next, leff_next], fun o' ho' t ht => ?_⟩
    · rw [put_objs, leff_on hq.ok, on_same hm (by rw [hl] at hw; exact hw)]
    · rw [ho] at ho'
      cases ho'
      rw [put_tmps, leff_tmps hq.ok]
      cases hd : o.dst with
      | none => rfl
      | some d =>
        have : d ≠ t := fun e => ht (by rw [hd, e])
        simp only [List.getD_eq_getElem?_getD, List.getElem?_set_ne this]
  · refine ⟨fun l hl _ => by rw [put_objs], by rw [put_next], fun o' ho' t ht => ?_⟩
    rw [ho] at ho'
    cases ho'
    rw [put_tmps]
    cases hd : o.dst with
    | none => rfl
    | some d =>
      have : d ≠ t := fun e => ht (by rw [hd, e])
      simp only [List.getD_eq_getElem?_getD, List.getElem?_set_ne this]

theorem swapL {k i : Nat} {s s1 s2 : AState} {ok oi : Oper} (hk : ops[k]? = some ok) (hi : ops[i]? = some oi) (hap : ok.apart ops oi = true) (hin : Indep ok oi (lab k) (lab i)) (hki : k ≠ i) (hr : RelB E s a w F B U) (hnk : ¬ U (base + k)) (hni : ¬ U (base + i))
    (h1 : LDStep P T ops base lab k s s1) (h2 : LDStep P T ops base lab i s1 s2) : ∃ s1', LDStep P T ops base lab i s s1' ∧ LDStep P T ops base lab k s1' s2 := by
  obtain ⟨ha1, ha2, ha3⟩ := Oper.apart_spec hap
  obtain ⟨g1, g2, g3⟩ := lstep_agree h1
  obtain ⟨ev, wv⟩ := looks_eval (s := s) (s1 := s1) (o := oi) (d := ok.dst) (g3 ok hk) ha1
  have loi : ∀ x ∈ oi.op.operands.toList, (s.eval x).lo U := fun x _ => eval_lo hr x
  have lok : ∀ x ∈ ok.op.operands.toList, (s.eval x).lo U := fun x _ => eval_lo hr x
  have hUk : ∀ m, U m → m ≠ base + k := fun m hm e => hnk (e ▸ hm)
  have hUi : ∀ m, U m → m ≠ base + i := fun m hm e => hni (e ▸ hm)
  have hset : ∀ (l : List AV) (x y : AV), (match oi.dst with | some d => (match ok.dst with | some d => l.set d x | none => l).set d y | none => (match ok.dst with | some d => l.set d x | none => l)) = (match ok.dst with | some d => (match oi.dst with | some d => l.set d y | none => l).set d x | none => (match oi.dst with | some d => l.set d y | none => l)) := by
    intro l x y
    cases hdk : ok.dst with
    | none => cases oi.dst <;> rfl
    | some dk =>
      cases hdi : oi.dst with
      | none => rfl
      | some di =>
        have : dk ≠ di := fun e => ha2 dk hdk (by rw [hdi, e])
        exact List.set_comm _ _ this
  have hb : base + k ≠ base + i := by omega
  -- operation i in the first state
  obtain ⟨o, ho, h2⟩ := h2
  rw [hi] at ho
  cases ho
  have hi1 : ∃ s1', LDStep P T ops base lab i s s1' ∧ ((∃ y li, li.ok = true ∧ (lab i).w = li.w ∧ (∀ l, li.w = some l → U l ∧ ∀ l', (lab k).w = some l' → l ≠ l') ∧ s1' = (s.leff (base + i) li).put oi.dst y ∧ s2 = (s1.leff (base + i) li).put oi.dst y) ∨ ((lab i).w = none ∧ s1' = s.put oi.dst (.tup []) ∧ s2 = s1.put oi.dst (.tup []))) := by
    rcases h2 with ⟨hw, x, le, hq, rfl, hl⟩ | ⟨hw, rfl, hl⟩
    · have evm : oi.op.operands.toList.map s1.eval = oi.op.operands.toList.map s.eval := List.map_congr_left fun x hx => (ev x hx).symm
      have hq' : LStep P T s (base + i) oi x le := by
        refine hq.move (U := U) (wr := (lab k).w) (fun m hm hw => (g1 m (hUk m hm) hw).symm) (fun hw l ob hm ho => ?_) (fun y hy => (ev y hy).symm) (fun y hy => by rw [← ev y hy]; exact loi y hy) (fun l hl' => ?_)
        · rw [← g1 l (hUk l hm) (by rw [hw]; simp)] at ho
          exact (hr.wfO l ob ho).2
        · rcases hin.1 l hl' with h | h
          · exact .inl h
          · refine .inr fun y hy => h _ ?_
            rw [hl]
            exact List.mem_map.2 ⟨y, hy, rfl⟩
      refine ⟨_, ⟨oi, hi, .inl ⟨by rw [wv]; exact hw, x, le, hq', rfl, by rw [hl, evm]⟩⟩, .inl ⟨x, le, hq.ok, by rw [hl], fun l hwl => ?_, rfl, rfl⟩⟩
      have htar := hq'.target hwl
      refine ⟨target_lo htar (fun y hy => ?_), fun l' hl' e => ?_⟩
      · obtain ⟨z, hz, rfl⟩ := List.mem_map.1 hy
        exact loi z hz
      · rcases hin.1 l' hl' with h | h
        · obtain ⟨b1, b2, b3, b4⟩ := blind_quiet h
          simp [targetV, b2, b3] at htar
        · by_cases hv : isVal oi.op = true
          · cases hop : oi.op <;> simp_all [isVal, targetV, isStore, isApp]
            rename_i c
            cases hc : c.callee <;> simp_all
          · simp only [hv, Bool.false_eq_true, if_false] at h
            have := target_lo (V := fun m => m ≠ l') htar (fun y hy => h y (by rw [hl, evm]; exact hy))
            exact this e
    · exact ⟨_, ⟨oi, hi, .inr ⟨by rw [wv]; exact hw, rfl, hl⟩⟩, .inr ⟨by rw [hl], rfl, rfl⟩⟩
  obtain ⟨s1', hd1, hs⟩ := hi1
  refine ⟨s1', hd1, ?_⟩
  obtain ⟨q1, q2, q3⟩ := lstep_agree hd1
  obtain ⟨ev', wv'⟩ := looks_eval (s := s) (s1 := s1') (o := ok) (d := oi.dst) (q3 oi hi) ha3
  obtain ⟨o, ho, h1⟩ := h1
  rw [hk] at ho
  cases ho
  refine ⟨ok, hk, ?_⟩
  rcases h1 with ⟨hw, x, lk, hq, rfl, hl⟩ | ⟨hw, rfl, hl⟩
  · have hq' : LStep P T s1' (base + k) ok x lk := by
      refine hq.move (U := U) (wr := (lab i).w) (fun m hm hw => q1 m (hUi m hm) hw) (fun hw l ob hm ho => (hr.wfO l ob ho).2) ev' lok (fun l hl' => ?_)
      rcases hin.2 l hl' with h | h
      · exact .inl h
      · refine .inr fun y hy => h _ ?_
        rw [hl]
        exact List.mem_map.2 ⟨y, hy, rfl⟩
    have hwk : ∀ l, lk.w = some l → U l := fun l hwl => target_lo (hq.target hwl) (fun y hy => by
      obtain ⟨z, hz, rfl⟩ := List.mem_map.1 hy
      exact lok z hz)
    refine .inl ⟨by rw [← wv']; exact hw, x, lk, hq', ?_, by rw [hl]; congr 1; exact List.map_congr_left fun y hy => ev' y hy⟩
    rcases hs with ⟨y, li, hok, hwi, hli, rfl, rfl⟩ | ⟨hwi, rfl, rfl⟩
    · refine state_ext ?_ ?_ ?_
      · simp only [put_tmps, leff_tmps hok, leff_tmps hq.ok]; exact hset _ _ _
      · simp only [put_objs, leff_on hok, leff_on hq.ok]
        refine on_comm hb (fun e => ?_) (fun e => ?_) (fun l h1 h2 => ?_)
        · exact hUk _ (hli _ e).1 rfl
        · exact hUi _ (hwk _ e) rfl
        · exact (hli l h2).2 l (by rw [hl]; exact h1) rfl
      · simp only [put_next, leff_next]
    · refine state_ext ?_ ?_ ?_
      · simp only [put_tmps, leff_tmps hq.ok]; exact hset _ _ _
      · simp only [put_objs, leff_on hq.ok]
      · simp only [put_next, leff_next]
  · refine .inr ⟨by rw [← wv']; exact hw, ?_, hl⟩
    rcases hs with ⟨y, li, hok, hwi, hli, rfl, rfl⟩ | ⟨hwi, rfl, rfl⟩
    · refine state_ext ?_ ?_ ?_
      · simp only [put_tmps, leff_tmps hok]; exact hset _ _ _
      · simp only [put_objs, leff_on hok]
      · simp only [put_next, leff_next]
    · refine state_ext ?_ ?_ ?_
      · simp only [put_tmps]; exact hset _ _ _
      · simp only [put_objs]
      · simp only [put_next]

theorem lstep_good (hT : Tab.ok P T = true) {i : Nat} {s s1 : AState} (h : LDStep P T ops base lab i s s1) (hr : RelB E s a w F B U) (hn : ¬ U (base + i)) : ∃ a' w' F' B', RelB E s1 a' w' F' B' (fun l => U l ∨ l = base + i) := by
  obtain ⟨o, ho, ⟨_, x, e, hq, rfl, _⟩ | ⟨_, rfl, _⟩⟩ := h
  · have hop := hq.aop (K := fun x' s' => x' = x ∧ s' = s.leff (base + i) e) ⟨rfl, rfl⟩
    have hwp := aop_sound hT hr hn hop (next := fun a' w' => ∃ F' B', RelB E ((s.leff (base + i) e).put o.dst x) a' w' F' B' (fun l => U l ∨ l = base + i)) (Q := fun _ _ _ => False) (by
      rintro x' s' v w' F' B' ⟨rfl, rfl⟩ h1 h2 h3
      exact ⟨F', B', h1.put h2 h3⟩)
    obtain ⟨a', w', F', B', h1⟩ := wp_ex hwp
    exact ⟨a', w', F', B', h1⟩
  · exact ⟨_, w, F, B, ((hr.put (dst := o.dst) (v := undef) gone_rep gone_lo).more (base + i))⟩

theorem frontL (hT : Tab.ok P T = true) {i : Nat} {oi : Oper} (hi : ops[i]? = some oi) : ∀ (L : List Nat) {s sf : AState} {a : Act} {w : World} {F : Nat → Prop} {B : Beta} {U : Nat → Prop}, RelB E s a w F B U → (∀ k ∈ L, ¬ U (base + k)) → L.Pairwise (· < ·) → LRun P T ops base lab L s sf → i ∈ L →
    (∀ k ∈ L, k < i → ∀ ok, ops[k]? = some ok → ok.apart ops oi = true ∧ Indep ok oi (lab k) (lab i)) → ∃ s1, LDStep P T ops base lab i s s1 ∧ LRun P T ops base lab (L.erase i) s1 sf
  | [], _, _, _, _, _, _, _, _, _, _, _, hm, _ => by simp at hm
  | k :: L, s, sf, a, w, F, B, U, hr, hU, hp, hrun, hm, hap => by
    obtain ⟨s2, h1, h2⟩ := hrun
    by_cases hki : k = i
    · subst hki
      exact ⟨s2, h1, by simpa using h2⟩
    · have hm' : i ∈ L := by
        rcases List.mem_cons.1 hm with e | e
        · exact absurd e.symm hki
        · exact e
      have hp' := List.pairwise_cons.1 hp
      have hlt : k < i := hp'.1 i hm'
      have hnk : ¬ U (base + k) := hU k List.mem_cons_self
      obtain ⟨a', w', F', B', hr2⟩ := lstep_good hT h1 hr hnk
      obtain ⟨s3, h3, h4⟩ := frontL hT hi L hr2 (fun j hj hc => by
        rcases hc with hc | hc
        · exact hU j (List.mem_cons_of_mem _ hj) hc
        · have := hp'.1 j hj
          omega) hp'.2 h2 hm' (fun j hj => hap j (List.mem_cons_of_mem _ hj))
      obtain ⟨ok, hok, _⟩ := id h1
      obtain ⟨ha, hin⟩ := hap k List.mem_cons_self hlt ok hok
      obtain ⟨s1', h5, h6⟩ := swapL hok hi ha hin hki hr hnk (hU i hm) h1 h3
      refine ⟨s1', h5, ?_⟩
      rw [List.erase_cons_tail (by simpa using hki)]
      exact ⟨s3, h6, h4⟩

/-! what is told of the region beforehand, and at its end -/
def tmpIn (t : Nat) (xs : List Operand) : Bool := xs.any fun x => match x with | .tmp k => k == t | _ => false
/-- Nothing behind the operation (nor the operation itself) overwrites its operands. -/
def stable (ops : Array Oper) (i : Nat) (o : Oper) : Bool :=
  (List.range ops.size).all fun j => decide (j < i) || (match ops[j]? with | some p => (match p.dst with | some t => !tmpIn t o.op.operands.toList | none => true) | none => true)
def okDrawL (ops : Array Oper) (M : List Nat) : Bool :=
  (List.range ops.size).all fun i => match ops[i]? with
    | none => true
    | some o => drawKind o.op && (blindKind o.op || stable ops i o) && (o.after.toList.all fun e => !Region.binds .any e || decide (e.on < i)) && (List.range ops.size).all fun k => okOne ops M i o k

def AV.free1 (f : Nat → Bool) : AV → Bool
  | .junk => true
  | .c _ => true
  | .ref l _ => f l
  | .eref l _ _ _ => f l
  | .lsl l _ _ _ => f l
  | _ => false
def AV.free (f : Nat → Bool) : AV → Bool
  | .agg cs => cs.all (AV.free1 f)
  | .tup cs => cs.all (AV.free1 f)
  | .fn _ cs => cs.all (AV.free1 f)
  | x => x.free1 f
def loudAt (ops : Array Oper) (M : List Nat) (sf : AState) (i l : Nat) : Bool :=
  (List.range ops.size).all fun k => k == i || (M.getD i 0).testBit k || (M.getD k 0).testBit i || (match ops[k]? with
    | none => true
    | some p => blindKind p.op || (p.op.operands.toList.all fun x => (sf.eval x).free (fun m => if isVal p.op then false else m != l)))
/-- At the region's end: what was written is not touched by what is not ordered to the writing. -/
def loudOk (ops : Array Oper) (M : List Nat) (sf : AState) : Bool :=
  (List.range ops.size).all fun i => match ops[i]? with
    | none => true
    | some o => match targetV o.op (o.op.operands.toList.map sf.eval) with
      | none => true
      | some l => loudAt ops M sf i l

theorem free1_lo {f : Nat → Bool} {x : AV} (h : x.free1 f = true) : x.lo (fun m => f m = true) := by
  cases x <;> simp_all [AV.free1, AV.lo]
theorem free_lo {f : Nat → Bool} {x : AV} (h : x.free f = true) : x.lo (fun m => f m = true) := by
  cases x with
  | agg cs => simp only [AV.lo]; exact fun y hy => free1_lo (List.all_eq_true.1 h y hy)
  | tup cs => simp only [AV.lo]; exact fun y hy => free1_lo (List.all_eq_true.1 h y hy)
  | fn g cs => simp only [AV.lo]; exact fun y hy => free1_lo (List.all_eq_true.1 h y hy)
  | _ => exact free1_lo h

theorem okDrawL_spec {M : List Nat} (h : okDrawL ops M = true) : ∀ (i : Nat) o, ops[i]? = some o → drawKind o.op = true ∧ (blindKind o.op = true ∨ stable ops i o = true) ∧ (∀ e ∈ o.after, Region.binds .any e = true → e.on < i) ∧
    (∀ k, k < ops.size → (M.getD i 0).testBit k = true → ∃ e ∈ o.after, Region.binds .any e = true ∧ (e.on = k ∨ (M.getD e.on 0).testBit k = true)) ∧
    (∀ k ok, k < i → ops[k]? = some ok → (M.getD i 0).testBit k = true ∨ ok.apart ops o = true) := by
  intro i o ho
  have hi : i < ops.size := (Array.getElem?_eq_some_iff.1 ho).1
  have h1 := List.all_eq_true.1 h i (List.mem_range.2 hi)
  simp only [ho, Bool.and_eq_true] at h1
  obtain ⟨⟨⟨h2, h2'⟩, h3⟩, h4⟩ := h1
  refine ⟨h2, by simpa using h2', fun e he hb => ?_, fun k hk hb => ?_, fun k ok hk hok => ?_⟩
  · have := List.all_eq_true.1 h3 e (by simpa using he)
    simpa [hb] using this
  · have := List.all_eq_true.1 h4 k (List.mem_range.2 hk)
    simp only [okOne, Bool.and_eq_true] at this
    have h5 := this.1
    rw [hb] at h5
    simp only [Bool.not_true, Bool.false_or, List.any_eq_true] at h5
    obtain ⟨e, he, h6⟩ := h5
    simp only [Bool.and_eq_true, Bool.or_eq_true, beq_iff_eq] at h6
    exact ⟨e, by simpa using he, h6.1, h6.2⟩
  · have hks : k < ops.size := by omega
    have := List.all_eq_true.1 h4 k (List.mem_range.2 hks)
    simp only [okOne, Bool.and_eq_true] at this
    have h5 := this.2
    simp only [hok, hk, decide_true, Bool.not_true, Bool.false_or, Bool.or_eq_true] at h5
    exact h5

theorem LRun_lab {lab' : Nat → Lab} : ∀ (L : List Nat) {s s' : AState}, (∀ j ∈ L, lab' j = lab j) → LRun P T ops base lab L s s' → LRun P T ops base lab' L s s'
  | [], _, _, _, h => h
  | i :: L, s, s', hj, ⟨s1, h1, h2⟩ => by
    refine ⟨s1, ?_, LRun_lab L (fun j hm => hj j (List.mem_cons_of_mem _ hm)) h2⟩
    obtain ⟨o, ho, h⟩ := h1
    exact ⟨o, ho, by rw [hj i List.mem_cons_self]; exact h⟩

/-- The operands of what is stable read at the end what they read when it ran. -/
def Told (ops : Array Oper) (lab : Nat → Lab) (k n : Nat) (sf : AState) : Prop :=
  ∀ i o, k ≤ i → i < n → ops[i]? = some o → lab i = ⟨[], none⟩ ∨ ((∀ l, (lab i).w = some l → targetV o.op (lab i).vals = some l) ∧ (stable ops i o = true → (lab i).vals = o.op.operands.toList.map sf.eval))

theorem LRun_keeps {tt : Nat} : ∀ (L : List Nat) {s s' : AState}, (∀ j ∈ L, ∀ o, ops[j]? = some o → o.dst ≠ some tt) → LRun P T ops base lab L s s' → s'.tmps.getD tt .junk = s.tmps.getD tt .junk
  | [], _, _, _, h => by cases h; rfl
  | i :: L, s, s', hj, ⟨s1, h1, h2⟩ => by
    rw [LRun_keeps L (fun j hm => hj j (List.mem_cons_of_mem _ hm)) h2]
    obtain ⟨o, ho, _⟩ := id h1
    exact (lstep_agree h1).2.2 o ho tt (hj i List.mem_cons_self o ho)

theorem stable_eval {i : Nat} {o : Oper} (hs : stable ops i o = true) {L : List Nat} {s s' : AState} (hL : ∀ j ∈ L, i ≤ j) (h : LRun P T ops base lab L s s') : o.op.operands.toList.map s.eval = o.op.operands.toList.map s'.eval := by
  refine List.map_congr_left fun x hx => ?_
  cases x with
  | tmp tt =>
    simp only [AState.eval]
    refine (LRun_keeps L (fun j hj p hp hd => ?_) h).symm
    have hjs : j < ops.size := (Array.getElem?_eq_some_iff.1 hp).1
    have := List.all_eq_true.1 hs j (List.mem_range.2 hjs)
    simp only [hp, hd, Bool.or_eq_true, decide_eq_true_eq, Bool.not_eq_true'] at this
    rcases this with h1 | h1
    · have := hL j hj; omega
    · have h2 : tmpIn tt o.op.operands.toList = true := List.any_eq_true.2 ⟨.tmp tt, hx, by simp⟩
      rw [h2] at h1
      cases h1
  | _ => rfl

theorem LRun_of_arun (hq : ∀ (i : Nat) o, ops[i]? = some o → drawKind o.op = true) {K : AState → Prop} : ∀ (l : List Oper) (k : Nat) (s : AState), (∀ j, l[j]? = ops[k + j]?) → arun true P T ops l { s with next := base + k } K →
    ∃ lab s', LRun P T ops base lab (List.range' k l.length) s s' ∧ K { s' with next := base + k + l.length } ∧ Told ops lab k (k + l.length) s'
  | [], k, s, hl, h => ⟨fun _ => ⟨[], none⟩, s, rfl, by simpa [arun] using h, fun i o h1 h2 => by simp at h2; omega⟩
  | o :: l, k, s, hl, h => by
    have ho : ops[k]? = some o := by have := hl 0; simpa using this.symm
    have hl' : ∀ j, l[j]? = ops[k + 1 + j]? := by
      intro j
      have := hl (j + 1)
      rw [List.getElem?_cons_succ] at this
      rw [this]; congr 1; omega
    have hnx : ∀ (x : AV) (le : LEff), LStep P T { s with next := base + k } (base + k) o x le → LStep P T s (base + k) o x le := fun x le hx => by
      refine LStep.move (s := { s with next := base + k }) (t := s) (wr := none) (U := fun _ => True) (fun m _ _ => rfl) (fun _ l ob _ _ => olo_true ob) (fun y _ => by cases y <;> rfl) (fun y _ => lo_true _) (fun l hl => by cases hl) hx
    have fin : ∀ (lb : Lab) (s1 : AState), (∀ lab : Nat → Lab, lab k = lb → LDStep P T ops base lab k s s1) → (lb = ⟨[], none⟩ ∨ ((∀ l, lb.w = some l → targetV o.op lb.vals = some l) ∧ lb.vals = o.op.operands.toList.map s.eval)) → arun true P T ops l { s1 with next := base + (k + 1) } K → ∃ lab s', LRun P T ops base lab (List.range' k (o :: l).length) s s' ∧ K { s' with next := base + k + (o :: l).length } ∧ Told ops lab k (k + (o :: l).length) s' := by
      intro lb s1 hst hlb h2
      obtain ⟨lab, s', h3, h4, h5⟩ := LRun_of_arun hq l (k + 1) _ hl' h2
      have hne : ∀ j ∈ List.range' (k + 1) l.length, (fun j => if j = k then lb else lab j) j = lab j := fun j hj => by
        have := (List.mem_range'_1.1 hj).1
        exact if_neg (by omega)
      have hrun : LRun P T ops base (fun j => if j = k then lb else lab j) (List.range' k (o :: l).length) s s' := ⟨s1, hst _ (if_pos rfl), LRun_lab _ hne h3⟩
      refine ⟨fun j => if j = k then lb else lab j, s', hrun, ?_, fun i oi hki hin hoi => ?_⟩
      · rw [List.length_cons, show base + k + (l.length + 1) = base + (k + 1) + l.length by omega]
        exact h4
      · by_cases e : i = k
        · subst e
          rw [ho] at hoi
          cases hoi
          simp only [if_true]
          rcases hlb with hlb | ⟨g1, g2⟩
          · exact .inl hlb
          · refine .inr ⟨g1, fun hs => ?_⟩
            rw [g2]
            exact stable_eval hs (fun j hj => (List.mem_range'_1.1 hj).1) hrun
        · simp only [if_neg e]
          exact h5 i oi (by omega) (by rw [List.length_cons] at hin; omega) hoi
    have go : aop true P T { s with next := base + k } (base + k) o (fun x s' => arun true P T ops l ((s'.put o.dst x).bump) K) → wantedA ops s o = some true → ∃ lab s', LRun P T ops base lab (List.range' k (o :: l).length) s s' ∧ K { s' with next := base + k + (o :: l).length } ∧ Told ops lab k (k + (o :: l).length) s' := by
      intro h hw
      obtain ⟨x, le, h1, h2⟩ := LStep.of_aop (hq k o ho) h
      have hok := h1.ok
      have h1' := hnx x le h1
      have hs : ((({ s with next := base + k } : AState).leff (base + k) le).put o.dst x).bump = { ((s.leff (base + k) le).put o.dst x) with next := base + (k + 1) } := by
        refine state_ext ?_ ?_ ?_
        · simp only [AState.bump, put_tmps, leff_tmps hok]
        · simp only [AState.bump, put_objs, leff_on hok]
        · simp only [AState.bump, put_next, leff_next]; omega
      rw [hs] at h2
      refine fin ⟨o.op.operands.toList.map s.eval, le.w⟩ _ (fun lab hlab => ⟨o, ho, .inl ⟨hw, x, le, h1', rfl, hlab⟩⟩) (.inr ⟨fun l hwl => h1'.target hwl, rfl⟩) h2
    have hay : ∀ j, ayield ops { s with next := base + k } j = ayield ops s j := fun j => rfl
    simp only [arun] at h
    split at h
    · rename_i hg
      exact go h (by simp [wantedA, hg])
    · rename_i j want hg
      rw [hay] at h
      split at h
      · rename_i b hb
        by_cases hbw : b = want
        · rw [if_pos hbw] at h
          exact go h (by simp [wantedA, hg, hb, hbw])
        · rw [if_neg hbw] at h
          have hs : (({ s with next := base + k } : AState).put o.dst (.tup [])).bump = { (s.put o.dst (.tup [])) with next := base + (k + 1) } := by
            refine state_ext ?_ ?_ ?_
            · simp only [AState.bump, put_tmps]
            · simp only [AState.bump, put_objs]
            · simp only [AState.bump, put_next]; omega
          rw [hs] at h
          exact fin ⟨[], none⟩ _ (fun lab hlab => ⟨o, ho, .inr ⟨by simp [wantedA, hg, hb, hbw], rfl, hlab⟩⟩) (.inl rfl) h
      · exact h.elim

theorem indep_of {M : List Nat} (hok : okDrawL ops M = true) {n : Nat} (hn : n = ops.size) {sf : AState} (hld : loudOk ops M sf = true) (ht : Told ops lab 0 n sf) {k i : Nat} {ok oi : Oper} (hk : ops[k]? = some ok) (hi : ops[i]? = some oi) (hki : k ≠ i)
    (h1 : (M.getD i 0).testBit k = false) (h2 : (M.getD k 0).testBit i = false) : Indep ok oi (lab k) (lab i) := by
  have key : ∀ (k i : Nat) (ok oi : Oper), ops[k]? = some ok → ops[i]? = some oi → k ≠ i → (M.getD i 0).testBit k = false → (M.getD k 0).testBit i = false → ∀ l, (lab k).w = some l → touch oi (lab i) l := by
    intro k i ok oi hk hi hki h1 h2 l hw
    have hks : k < ops.size := (Array.getElem?_eq_some_iff.1 hk).1
    have his : i < ops.size := (Array.getElem?_eq_some_iff.1 hi).1
    rcases ht k ok (Nat.zero_le _) (by omega) hk with e | ⟨g1, g2⟩
    · rw [e] at hw; cases hw
    · have htar := g1 l hw
      have hst : stable ops k ok = true := by
        rcases (okDrawL_spec hok k ok hk).2.1 with hb | hb
        · obtain ⟨b1, b2, b3, b4⟩ := blind_quiet hb
          simp [targetV, b2, b3] at htar
        · exact hb
      rw [g2 hst] at htar
      have h3 := List.all_eq_true.1 hld k (List.mem_range.2 hks)
      simp only [hk, htar] at h3
      have h4 := List.all_eq_true.1 h3 i (List.mem_range.2 his)
      simp only [hi, h1, h2, Bool.or_false, Bool.or_eq_true, beq_iff_eq] at h4
      rcases h4 with h4 | h4
      · exact absurd h4.symm hki
      · rcases h4 with h4 | h4
        · exact .inl h4
        · rcases ht i oi (Nat.zero_le _) (by omega) hi with e | ⟨g3, g4⟩
          · refine .inr fun x hx => ?_
            rw [e] at hx
            simp at hx
          · rcases (okDrawL_spec hok i oi hi).2.1 with hb | hb
            · exact .inl hb
            · refine .inr fun x hx => ?_
              rw [g4 hb] at hx
              obtain ⟨y, hy, rfl⟩ := List.mem_map.1 hx
              have h5 := free_lo (List.all_eq_true.1 h4 y hy)
              refine AV.lo_mono ?_ _ h5
              intro m hm
              by_cases hv : isVal oi.op = true
              · simp [hv] at hm
              · simp only [hv, Bool.false_eq_true, if_false] at hm ⊢
                simpa using hm
  exact ⟨key k i ok oi hk hi hki h1 h2, key i k oi ok hi hk (Ne.symm hki) h2 h1⟩

theorem any_soundL (hT : Tab.ok P T = true) {M : List Nat} (hok : okDrawL ops M = true) {Q : Exit → Act → World → Prop} {sf : AState} (hQ : ∀ a w F B U, RelB E sf a w F B U → (∀ l, U l → l < base + ops.size) → Q .normal a w)
    (hind : ∀ k i ok oi, k < i → ops[k]? = some ok → ops[i]? = some oi → (M.getD i 0).testBit k = false → Indep ok oi (lab k) (lab i)) :
    ∀ (fuel : Nat) (listed : Array Bool) (a : Act) (w : World) (s : AState) (F : Nat → Prop) (B : Beta) (U : Nat → Prop), listed.size = ops.size → (unlisted ops.size listed).length = fuel → RelB E s a w F B U → (∀ l, U l → l < base + ops.size) → (∀ k ∈ unlisted ops.size listed, ¬ U (base + k)) →
      (∀ j o, ops[j]? = some o → listed.getD j true = true → ∀ e ∈ o.after, Region.binds .any e = true → listed.getD e.on false = true) → LRun P T ops base lab (unlisted ops.size listed) s sf → wpAny P .any ops Q fuel listed a w := by
  have hspec := okDrawL_spec hok
  intro fuel
  induction fuel with
  | zero =>
    intro listed a w s F B U hsz hlen hr hUb hU hdown hrun
    have hnil : unlisted ops.size listed = [] := List.eq_nil_of_length_eq_zero hlen
    rw [hnil] at hrun
    cases hrun
    refine ⟨?_, hQ a w F B U hr hUb⟩
    rw [List.eq_nil_iff_forall_not_mem]
    intro j hj
    obtain ⟨h0, o, ho, _⟩ := mem_ready.1 hj
    have : j ∈ unlisted ops.size listed := mem_unlisted.2 ⟨(Array.getElem?_eq_some_iff.1 ho).1, h0⟩
    rw [hnil] at this
    simp at this
  | succ fuel ih =>
    intro listed a w s F B U hsz hlen hr hUb hU hdown hrun
    have hsort : (unlisted ops.size listed).Pairwise (· < ·) := List.Pairwise.filter _ List.pairwise_lt_range
    refine ⟨fun hnone => ?_, fun i hi => ?_⟩
    · obtain ⟨j, L, hjL⟩ : ∃ j L, unlisted ops.size listed = j :: L := by
        cases h : unlisted ops.size listed with
        | nil => rw [h] at hlen; simp at hlen
        | cons j L => exact ⟨j, L, rfl⟩
      have hj := mem_unlisted.1 (hjL ▸ List.mem_cons_self : j ∈ unlisted ops.size listed)
      have hr' : j ∈ Region.ready .any ops listed := by
        refine mem_ready.2 ⟨hj.2, ops[j], Array.getElem?_eq_getElem hj.1, fun e he hb => ?_⟩
        have hlt := (hspec j _ (Array.getElem?_eq_getElem hj.1)).2.2.1 e he hb
        by_cases hx : listed.getD e.on true = false
        · have hm : e.on ∈ unlisted ops.size listed := mem_unlisted.2 ⟨by omega, hx⟩
          rw [hjL] at hm hsort
          rcases List.mem_cons.1 hm with q | q
          · omega
          · have := (List.pairwise_cons.1 hsort).1 _ q; omega
        · have hs : e.on < listed.size := by omega
          simp only [Array.getD_eq_getD_getElem?, Array.getElem?_eq_getElem hs, Option.getD_some] at hx ⊢
          simpa using hx
      rw [hnone] at hr'
      simp at hr'
    · obtain ⟨h0, o, ho, hall⟩ := mem_ready.1 hi
      have hin : i < ops.size := (Array.getElem?_eq_some_iff.1 ho).1
      have hmem : i ∈ unlisted ops.size listed := mem_unlisted.2 ⟨hin, h0⟩
      have hanc : ∀ (n j : Nat) oj, j < n → ops[j]? = some oj → (∀ e ∈ oj.after, Region.binds .any e = true → listed.getD e.on false = true) → ∀ k, k < ops.size → (M.getD j 0).testBit k = true → listed.getD k false = true := by
        intro n
        induction n with
        | zero => intro j oj hj; omega
        | succ n ihn =>
          intro j oj hj hoj hl k hk hb
          obtain ⟨e, he, hbe, h1⟩ := (hspec j oj hoj).2.2.2.1 k hk hb
          have hle := hl e he hbe
          rcases h1 with rfl | h1
          · exact hle
          · have hlt := (hspec j oj hoj).2.2.1 e he hbe
            have hjs : j < ops.size := (Array.getElem?_eq_some_iff.1 hoj).1
            have heo : ops[e.on]? = some ops[e.on] := Array.getElem?_eq_getElem (by omega)
            refine ihn e.on _ (by omega) heo (hdown e.on _ heo ?_) k hk h1
            have hs : e.on < listed.size := by omega
            simp only [Array.getD_eq_getD_getElem?, Array.getElem?_eq_getElem hs, Option.getD_some] at hle ⊢
            exact hle
      have hap : ∀ k ∈ unlisted ops.size listed, k < i → ∀ ok, ops[k]? = some ok → ok.apart ops o = true ∧ Indep ok o (lab k) (lab i) := by
        intro k hk hlt ok hok'
        have hbit : (M.getD i 0).testBit k = false := by
          cases h1 : (M.getD i 0).testBit k with
          | false => rfl
          | true =>
            have h2 := hanc (i + 1) i o (by omega) ho hall k (by omega) h1
            have h3 := (mem_unlisted.1 hk).2
            have hs : k < listed.size := by omega
            simp only [Array.getD_eq_getD_getElem?, Array.getElem?_eq_getElem hs, Option.getD_some] at h2 h3
            rw [h2] at h3
            cases h3
        rcases (hspec i o ho).2.2.2.2 k ok hlt hok' with h1 | h1
        · rw [hbit] at h1; cases h1
        · exact ⟨h1, hind k i ok o hlt hok' ho hbit⟩
      obtain ⟨s1, hst, hrest⟩ := frontL hT ho _ hr hU hsort hrun hmem hap
      have hni := hU i hmem
      have hun : unlisted ops.size (listed.setIfInBounds i true) = (unlisted ops.size listed).erase i := by
        rw [List.Nodup.erase_eq_filter (hsort.imp (fun h => Nat.ne_of_lt h))]
        simp only [unlisted, List.filter_filter]
        refine List.filter_congr fun j hj => ?_
        by_cases e : j = i
        · subst e
          have hs : j < listed.size := by omega
          simp [Array.getD_eq_getD_getElem?, Array.getElem?_setIfInBounds, hs]
        · rw [getD_set_ne true (Ne.symm e)]
          simp [e]
      have hnext : ∀ a' w' F' B', RelB E s1 a' w' F' B' (fun l => U l ∨ l = base + i) → wpAny P .any ops Q fuel (listed.setIfInBounds i true) a' w' := by
        intro a' w' F' B' hr'
        refine ih _ a' w' s1 F' B' _ (by simpa using hsz) ?_ hr' ?_ ?_ ?_ (by rw [hun]; exact hrest)
        · rw [hun, List.length_erase_of_mem hmem, hlen]; omega
        · rintro l (hl | rfl)
          · exact hUb l hl
          · omega
        · intro k hk hc
          rw [hun] at hk
          rcases hc with hc | hc
          · exact hU k (List.mem_of_mem_erase hk) hc
          · have hki : k = i := by omega
            subst hki
            have hnd : (unlisted ops.size listed).Nodup := hsort.imp (fun h => Nat.ne_of_lt h)
            exact (hnd.mem_erase_iff.1 hk).1 rfl
        · intro j oj hoj hl e he hb
          refine getD_set_true ?_
          by_cases hji : j = i
          · subst hji
            rw [ho] at hoj
            cases hoj
            exact hall e he hb
          · rw [getD_set_ne true (Ne.symm hji)] at hl
            exact hdown j oj hoj hl e he hb
      obtain ⟨o', ho', hst⟩ := hst
      rw [ho] at ho'
      cases ho'
      unfold wpOp
      simp only [ho]
      rcases hst with ⟨hw, x, e, hq, rfl, _⟩ | ⟨hw, rfl, _⟩
      · rw [if_pos (wanted_eq hr hw)]
        refine .inl (aop_sound hT hr hni (hq.aop (K := fun x' s' => x' = x ∧ s' = s.leff (base + i) e) ⟨rfl, rfl⟩) ?_)
        rintro x' s' v w' F' B' ⟨rfl, rfl⟩ h1 h2 h3
        exact hnext _ w' F' B' (h1.put h2 h3)
      · rw [if_neg (by rw [wanted_eq hr hw]; simp)]
        exact hnext _ w F B ((hr.put (dst := o.dst) (v := undef) gone_rep gone_lo).more (base + i))

/-- A REGION THAT DRAWS ITS ORDER AND WRITES: the text's order stands for all. -/
theorem AWP.drawL (hT : Tab.ok P T = true) (hm : P.follows .mixedOrders = true) {M : List Nat} {id : Nat} (hok : okDrawL ops M = true) {Q : APost} (h : arun true P T ops ops.toList s (fun s' => loudOk ops M s' = true ∧ Q .normal s')) : AWP P E (.region id ops true) Q s := by
  rintro a w ⟨F, B, U, hr, hU⟩
  have hs : s = { s with next := s.next + 0 } := rfl
  rw [hs] at h
  obtain ⟨lab, sf, h1, ⟨hld, h2⟩, htold⟩ := LRun_of_arun (base := s.next) (fun i o ho => (okDrawL_spec hok i o ho).1) ops.toList 0 s (fun j => by simp) h
  have hld' : loudOk ops M sf = true := hld
  have hind : ∀ k i ok oi, k < i → ops[k]? = some ok → ops[i]? = some oi → (M.getD i 0).testBit k = false → Indep ok oi (lab k) (lab i) := by
    intro k i ok oi hki hk hi hb
    refine indep_of hok (n := 0 + ops.toList.length) (by simp) hld' htold hk hi (by omega) hb ?_
    cases hb2 : (M.getD k 0).testBit i with
    | false => rfl
    | true =>
      have his : i < ops.size := (Array.getElem?_eq_some_iff.1 hi).1
      exfalso
      have hno : ∀ (n j : Nat) oj, j < n → ops[j]? = some oj → ∀ k, k < ops.size → (M.getD j 0).testBit k = true → k < j := by
        intro n
        induction n with
        | zero => intro j oj hj; omega
        | succ n ihn =>
          intro j oj hj hoj k hk hb
          obtain ⟨e, he, hbe, h1⟩ := (okDrawL_spec hok j oj hoj).2.2.2.1 k hk hb
          have hlt := (okDrawL_spec hok j oj hoj).2.2.1 e he hbe
          rcases h1 with rfl | h1
          · exact hlt
          · have hjs : j < ops.size := (Array.getElem?_eq_some_iff.1 hoj).1
            have := ihn e.on _ (by omega) (Array.getElem?_eq_getElem (by omega)) k hk h1
            omega
      have := hno (k + 1) k ok (by omega) hk i his hb2
      omega
  have hrep : ∀ i, i < ops.size → (Array.replicate ops.size false).getD i true = false := by
    intro i hi
    simp [Array.getD_eq_getD_getElem?, Array.getElem?_replicate, hi]
  have hun : unlisted ops.size (Array.replicate ops.size false) = List.range' 0 ops.toList.length := by
    rw [Array.length_toList, ← List.range_eq_range', unlisted, List.filter_eq_self]
    intro i hi
    rw [hrep i (List.mem_range.1 hi)]
    rfl
  refine wp_region_any hm (any_soundL hT (base := s.next) (lab := lab) hok (sf := sf) (Q := fun e a' w' => ∃ s', Q e s' ∧ Rel E s' a' w') ?_ hind ops.size _ a _ s F B U (by simp) (by rw [hun]; simp) hr.drew (fun l hl => by have := hU l hl; omega) (fun k hk hc => by have := hU _ hc; omega) ?_ (by rw [hun]; exact h1))
  · intro a' w' F' B' U' hr' hU'
    refine ⟨_, h2, F', B', U', { hr' with tmps := hr'.tmps }, fun l hl => ?_⟩
    have := hU' l hl
    simpa using this
  · intro j o ho hl
    rw [hrep j (Array.getElem?_eq_some_iff.1 ho).1] at hl
    cases hl

end
end Go.Proofs.Ytnnpjblpiecfdaa.Fw
