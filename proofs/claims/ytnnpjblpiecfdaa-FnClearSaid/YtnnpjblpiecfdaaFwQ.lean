/- Regions in the text's order; the abstract machine's code. -/
import Derived.Test.YtnnpjblpiecfdaaFwPb
namespace Go.Proofs.Ytnnpjblpiecfdaa.Fw
open Go.RowKit
set_option linter.unusedVariables false
set_option linter.unusedSimpArgs false

/-- Where an operation cannot take local slices, it takes them frozen. -/
def frzTry (q : Bool) (T : Tab) (s : AState) (nid : Nat) (op : Op) (K : AV → AState → Prop) : Prop :=
  q = false ∧ (match aeff T (s.frzL (lslsV (frzVals s op))) nid op with
    | some (x, e) => K x ((s.frzL (lslsV (frzVals s op))).eff nid e)
    | none => False)

def aop (q : Bool) (P : Program) (T : Tab) (s : AState) (nid : Nat) (o : Oper) (K : AV → AState → Prop) : Prop :=
  match o.op with
  | .call c => match c.callee with
    | .value f => match s.eval f with
      | .fn g caps => acall q P s nid g (c.args.toList.map s.eval ++ caps) K
      | .c (.fn g caps) => acall q P s nid g (c.args.toList.map s.eval ++ caps.map .c) K
      | _ => False
    | .builtin b => match aeff T s nid (.call { c with callee := .builtin b }) with
      | some (x, e) => K (movV q nid x e) (movS q s nid e)
      | none => False
    | _ => False
  | op => match aeff T s nid op with
    | some (x, e) => K x (s.eff nid e)
    | none => frzTry q T s nid op K

def ayield (ops : Array Oper) (s : AState) (j : Nat) : Option (Option Bool) :=
  match (ops[j]?).bind (·.dst) with
  | some d => match s.tmps.getD d .junk with
    | .c (.v (.bool b)) => some (some b)
    | .tup [] => some none
    | _ => none
  | none => none

def AState.bump (s : AState) : AState := { s with next := s.next + 1 }

/-- A region in the text's order. -/
def arun (q : Bool) (P : Program) (T : Tab) (ops : Array Oper) : List Oper → AState → (AState → Prop) → Prop
  | [], s, K => K s
  | o :: rest, s, K => match o.guard with
    | none => aop q P T s s.next o fun x s' => arun q P T ops rest ((s'.put o.dst x).bump) K
    | some (j, want) => match ayield ops s j with
      | some b => if b = some want then aop q P T s s.next o fun x s' => arun q P T ops rest ((s'.put o.dst x).bump) K else arun q P T ops rest ((s.put o.dst (.tup [])).bump) K
      | none => False

section
variable {q : Bool} {P : Program} {T : Tab} {E : Entry} {s : AState} {a : Act} {w : World} {F : Nat → Prop} {B : Beta} {U : Nat → Prop}

theorem aop_mono {nid : Nat} {o : Oper} {K K' : AV → AState → Prop} (hk : ∀ x s', K x s' → K' x s') (h : aop q P T s nid o K) : aop q P T s nid o K' := by
  have hc1 : ∀ s g xs, acall1 q P s nid g xs K → acall1 q P s nid g xs K' := by
    rintro s g xs (⟨args, r, h1, h2, h3, h4⟩ | ⟨hq, l, t, cs, cells, rest, out, r, h1, h2, h3, h4, h5, h6⟩ | ⟨hq, l, e, sz, rows, rest, args, rows', r, h1, h2, h3, h4, h5, h6, h7⟩)
    · exact .inl ⟨args, r, h1, h2, h3, hk _ _ h4⟩
    · exact .inr (.inl ⟨hq, l, t, cs, cells, rest, out, r, h1, h2, h3, h4, h5, hk _ _ h6⟩)
    · exact .inr (.inr ⟨hq, l, e, sz, rows, rest, args, rows', r, h1, h2, h3, h4, h5, h6, hk _ _ h7⟩)
  have hc : ∀ g xs, acall q P s nid g xs K → acall q P s nid g xs K' := by
    rintro g xs (h | ⟨hq, ls, h⟩)
    · exact .inl (hc1 _ _ _ h)
    · exact .inr ⟨hq, ls, hc1 _ _ _ h⟩
  unfold aop at h ⊢
  split at h
  · split at h
    · split at h <;> first | exact hc _ _ h | exact h.elim
    · split at h <;> first | exact hk _ _ h | exact h.elim
    · exact h.elim
  · split at h
    · exact hk _ _ h
    · obtain ⟨hq, h⟩ := h
      refine ⟨hq, ?_⟩
      split at h
      · exact hk _ _ h
      · exact h.elim

theorem run_value_call {o : Oper} {c : Call} {fo : Operand} {g : FuncId} {cv : Array Value} (ho : o.op = .call c) (hc : c.callee = .value fo) (hf : a.eval fo = .func (.func g) #[] cv) (hE : Enters P g) :
    (execOp a.eval o).run P w = .ok (.enter g (c.args.map a.eval ++ cv)) w := by
  obtain ⟨fn, h1, h2, h3⟩ := hE
  have h2' : ¬ fn.name = "runtime.NumGoroutine" := by simpa using h2
  have h3' : ¬ fn.body = none := by cases hb : fn.body <;> simp_all
  simp [execOp, ho, resolve, hc, hf, Deferred.ofValue, invoke, callFunc, h1, h2', h3']

theorem args_rep (h : RelB E s a w F B U) (args : Array Operand) {caps : List AV} {cv : Array Value} (h1 : cv.size = caps.length) (h2 : ∀ (i : Nat) x v, caps[i]? = some x → cv[i]? = some v → ARep w F B v x) :
    (args.map a.eval ++ cv).toList.length = (args.toList.map s.eval ++ caps).length ∧ ∀ (i : Nat) x v, (args.toList.map s.eval ++ caps)[i]? = some x → (args.map a.eval ++ cv).toList[i]? = some v → ARep w F B v x := by
  obtain ⟨g1, g2, _⟩ := caps_rep h args
  refine ⟨by simp [h1], fun i x v hx hv => ?_⟩
  simp only [Array.toList_append] at hv
  by_cases hi : i < args.size
  · rw [List.getElem?_append_left (by simpa using hi)] at hx hv
    exact g2 i x v hx (by simpa using hv)
  · rw [List.getElem?_append_right (by simp; omega)] at hx hv
    simp only [List.length_map, Array.length_toList, Array.toList_map] at hx hv
    exact h2 _ x v hx (by simpa using hv)

/-- Whatever it is, it yields a value (or nothing), or it is a call that returns: in each case what the abstract machine tells holds. -/
theorem aop_sound (hT : Tab.ok P T = true) (h : RelB E s a w F B U) {nid : Nat} (hn : ¬ U nid) {o : Oper} {K : AV → AState → Prop} (hop : aop q P T s nid o K) {next : Act → World → Prop} {Q : Exit → Act → World → Prop}
    (hk : ∀ x s' v w' F' B', K x s' → RelB E s' a w' F' B' (fun l => U l ∨ l = nid) → ARep w' F' B' v x → x.lo (fun l => U l ∨ l = nid) → next (a.put o.dst v) w') : o.wp P a w next Q := by
  have heff : ∀ x e, aeff T s nid o.op = some (x, e) → K x (s.eff nid e) → o.wp P a w next Q := by
    intro x e he hK
    refine (aeff_sound hT h hn he).wp ?_
    rintro v w' ⟨F', B', h1, h2, h3⟩
    exact hk x _ v w' F' B' hK h1 h2 h3
  have hcall : ∀ (c : Call) fo g caps cv, o.op = .call c → c.callee = .value fo → a.eval fo = .func (.func g) #[] cv → cv.size = caps.length → (∀ (i : Nat) x v, caps[i]? = some x → cv[i]? = some v → ARep w F B v x) →
      acall q P s nid g (c.args.toList.map s.eval ++ caps) K → o.wp P a w next Q := by
    intro c fo g caps cv ho hc hf h1 h2 hac
    obtain ⟨g1, g2⟩ := args_rep h c.args h1 h2
    obtain ⟨hE, hcs⟩ := calls_sound h hn g1 g2 hac
    unfold Oper.wp
    rw [run_value_call ho hc hf hE, Oper.upon_enter]
    refine hcs.mono ?_
    rintro e w' ⟨v, x, s', F', B', rfl, hK, h3, h4, h5⟩
    exact hk x s' v w' F' B' hK h3 h4 h5
  unfold aop at hop
  split at hop
  · rename_i c ho
    split at hop
    · rename_i fo hc
      have hfr := eval_rep h fo
      split at hop
      · rename_i g caps hfo
        rw [hfo] at hfr
        generalize hfv : a.eval fo = fv at hfr
        cases hfr with | fn h1 h2 => exact hcall c fo g caps _ ho hc hfv h1 h2 hop
      · rename_i g caps hfo
        rw [hfo] at hfr
        generalize hfv : a.eval fo = fv at hfr
        cases hfr with | c hfr =>
        cases hfr with | fn h1 h2 =>
        refine hcall c fo g (caps.map .c) _ ho hc hfv (by simpa using h1) (fun i x v hx hv => ?_) hop
        simp only [List.getElem?_map, Option.map_eq_some_iff] at hx
        obtain ⟨y, hy, rfl⟩ := hx
        exact .c (h2 i y v hy hv)
      · exact hop.elim
    · rename_i b hc
      split at hop
      · rename_i x e he
        have he' : aeff T s nid o.op = some (x, e) := by
          rw [ho, ← he]
          congr 2
          cases c
          simp only at hc
          subst hc
          rfl
        rcases aeff_builtin_forms (c := { c with callee := .builtin b }) rfl he with (rfl | ⟨o', rfl⟩) | ⟨l, sz, m, el, r, rows, rows', hl0, rfl, hob, rfl⟩
        · refine heff x _ he' ?_
          exact hop
        · refine heff x _ he' ?_
          exact hop
        · cases q with
          | false => exact heff _ _ he' hop
          | true =>
            refine (aeff_sound hT h hn he').wp ?_
            rintro v w' ⟨F', B', h1, h2, h3⟩
            have h4 := h.mov hn hl0 hob rfl h1
            refine hk _ _ v w' F' _ hop h4 (.lsl fun b n hb => ?_) (show (AV.lsl nid sz 0 m).lo (fun l => U l ∨ l = nid) by simp [AV.lo])
            rw [if_pos rfl] at hb
            cases h2 with | lsl h2 => exact h2 b n hb
      · exact hop.elim
    · exact hop.elim
  · split at hop
    · exact heff _ _ ‹_› hop
    · obtain ⟨_, hop⟩ := hop
      obtain ⟨F1, B1, h1⟩ := h.frzL (lslsV (frzVals s o.op))
      split at hop
      · rename_i x e he
        refine (aeff_sound hT h1 hn he).wp ?_
        rintro v w' ⟨F', B', g1, g2, g3⟩
        exact hk x _ v w' F' B' hop g1 g2 g3
      · exact hop.elim

theorem gone_rep : ARep w F B undef (.tup []) := .tup rfl (fun i x v h => by simp at h)
theorem gone_lo {U : Nat → Prop} : (AV.tup []).lo U := by simp only [AV.lo]; exact fun x hx => by simp at hx

theorem put_getD (h : RelB E s a w F B U) {ops : Array Oper} {j : Nat} {b : Option Bool} (hy : ayield ops s j = some b) : yielded ops a.tmps j = b := by
  unfold ayield at hy
  unfold yielded
  split at hy
  · rename_i d hd
    rw [hd]
    split at hy
    · rename_i b' hb
      cases hy
      have := eval_rep h (.tmp d)
      simp only [AState.eval, Act.eval] at this
      rw [hb] at this
      have hv := rep_v this
      simp only [Option.bind_some]
      rw [Array.getD_eq_getD_getElem?] at hv
      cases hq : a.tmps[d]? with
      | none => rw [hq] at hv; cases hv
      | some u =>
        rw [hq] at hv
        simp only [Option.getD_some] at hv
        rw [hv]
    · rename_i hb
      cases hy
      have := eval_rep h (.tmp d)
      simp only [AState.eval, Act.eval] at this
      rw [hb] at this
      simp only [Option.bind_some]
      rw [Array.getD_eq_getD_getElem?] at this
      cases hq : a.tmps[d]? with
      | none => rfl
      | some u =>
        rw [hq] at this
        simp only [Option.getD_some] at this
        cases this
        rfl
    · cases hy
  · cases hy

theorem arun_sound (hT : Tab.ok P T = true) {ops : Array Oper} {Q : Exit → Act → World → Prop} {K : AState → Prop} (hQ : ∀ s a w, K s → Rel E s a w → Q .normal a w) : ∀ (l : List Oper) (s : AState) (a : Act) (w : World), Rel E s a w → arun q P T ops l s K → wpList P ops Q l a w
  | [], s, a, w, hr, h => hQ s a w h hr
  | o :: rest, s, a, w, ⟨F, B, U, hr, hU⟩, h => by
    have hgo : aop q P T s s.next o (fun x s' => arun q P T ops rest ((s'.put o.dst x).bump) K) → o.wp P a w (wpList P ops Q rest) Q := by
      intro hop
      have hn : ¬ U s.next := fun hc => absurd (hU _ hc) (by omega)
      refine aop_sound (q := q) hT hr hn (K := fun x s' => s'.next = s.next ∧ arun q P T ops rest ((s'.put o.dst x).bump) K) ?_ ?_
      · exact aop_next hop
      · rintro x s' v w' F' B' ⟨hnx, hK⟩ h1 h2 h3
        refine arun_sound hT hQ rest _ (a.put o.dst v) w' ⟨F', B', (fun l => U l ∨ l = s.next), ?_, ?_⟩ hK
        · have h4 := h1.put (dst := o.dst) h2 h3
          exact { h4 with tmps := h4.tmps }
        · rintro l (hl | rfl)
          · have := hU l hl
            cases o.dst <;> simp [AState.bump, AState.put, hnx] <;> omega
          · cases o.dst <;> simp [AState.bump, AState.put, hnx]
    simp only [arun] at h
    simp only [wpList]
    split at h
    · rename_i hg
      rw [if_pos (by simp [Region.wanted, hg])]
      exact .inl (hgo h)
    · rename_i j want hg
      split at h
      · rename_i b hb
        have hy := put_getD hr hb
        by_cases hbw : b = want
        · rw [if_pos hbw] at h
          rw [if_pos (by simp [Region.wanted, hg, hy, hbw])]
          exact .inl (hgo h)
        · rw [if_neg hbw] at h
          rw [if_neg (by simp [Region.wanted, hg, hy, hbw])]
          have hp := hr.put (dst := o.dst) (v := undef) (x := .tup []) gone_rep gone_lo
          refine arun_sound hT hQ rest ((s.put o.dst (.tup [])).bump) (a.put o.dst undef) w ⟨F, B, U, { hp with tmps := hp.tmps }, ?_⟩ h
          intro l hl
          have := hU l hl
          cases o.dst <;> simp [AState.put, AState.bump] <;> omega
      · exact h.elim
where
  aop_next {q : Bool} {P : Program} {T : Tab} {s : AState} {o : Oper} {K : AV → AState → Prop} (h : aop q P T s s.next o K) : aop q P T s s.next o (fun x s' => s'.next = s.next ∧ K x s') := by
    have he : ∀ e, (s.eff s.next e).next = s.next := by intro e; cases e <;> rfl
    have hr : ∀ (s : AState) nid r, (s.ret nid r).next = s.next := by
      intro s nid r
      cases r with
      | tup xs => simp only [AState.ret]; split <;> rfl
      | _ => rfl
    have hc1 : ∀ (t : AState) g xs, t.next = s.next → acall1 q P t s.next g xs K → acall1 q P t s.next g xs (fun x s' => s'.next = s.next ∧ K x s') := by
      rintro t g xs ht (⟨args, r, h1, h2, h3, h4⟩ | ⟨hq, l, t, cs, cells, rest, out, r, h1, h2, h3, h4, h5, h6⟩ | ⟨hq, l, e, sz, rows, rest, args, rows', r, h1, h2, h3, h4, h5, h6, h7⟩)
      · exact .inl ⟨args, r, h1, h2, h3, (hr _ _ _).trans ht, h4⟩
      · exact .inr (.inl ⟨hq, l, t, cs, cells, rest, out, r, h1, h2, h3, h4, h5, (hr _ _ _).trans ht, h6⟩)
      · exact .inr (.inr ⟨hq, l, e, sz, rows, rest, args, rows', r, h1, h2, h3, h4, h5, h6, (hr _ _ _).trans ht, h7⟩)
    have hc : ∀ g xs, acall q P s s.next g xs K → acall q P s s.next g xs (fun x s' => s'.next = s.next ∧ K x s') := by
      rintro g xs (h | ⟨hq, ls, h⟩)
      · exact .inl (hc1 _ _ _ rfl h)
      · exact .inr ⟨hq, ls, hc1 _ _ _ (fzL_next ls s xs) h⟩
    unfold aop at h ⊢
    split at h
    · split at h
      · split at h <;> first | exact hc _ _ h | exact h.elim
      · split at h <;> first | exact ⟨movS_next _ _ _ _, h⟩ | exact h.elim
      · exact h.elim
    · split at h
      · exact ⟨he _, h⟩
      · obtain ⟨hq, h⟩ := h
        refine ⟨hq, ?_⟩
        split at h
        · refine ⟨?_, h⟩
          rw [← frzL_next (lslsV (frzVals s o.op)) s]
          cases ‹Eff› <;> rfl
        · exact h.elim

/-! ### code -/
abbrev APost := Exit → AState → Prop

/-- From every concrete state that the abstract one tells, the code comes to one that the post tells. -/
def AWP (P : Program) (E : Entry) (c : Code) (Q : APost) (s : AState) : Prop :=
  ∀ a w, Rel E s a w → c.wp P (fun e a' w' => ∃ s', Q e s' ∧ Rel E s' a' w') a w

def athen (K : AState → Prop) (Q : APost) : APost
  | .normal, s => K s
  | e, s => Q e s

def ainBlock (id : Nat) (Q : APost) : APost
  | .exit id', s => if id' = id then Q .normal s else Q (.exit id') s
  | e, s => Q e s

theorem AWP.mono {c : Code} {Q Q' : APost} (h : AWP P E c Q s) (hq : ∀ e s, Q e s → Q' e s) : AWP P E c Q' s :=
  fun a w hr => wp_mono (h a w hr) fun e a w ⟨s', h1, h2⟩ => ⟨s', hq _ _ h1, h2⟩

theorem AWP.skip {Q : APost} (h : Q .normal s) : AWP P E .skip Q s := fun a w hr => wp_skip ⟨s, h, hr⟩
theorem AWP.ret {Q : APost} (h : Q .ret s) : AWP P E .ret Q s := fun a w hr => wp_ret ⟨s, h, hr⟩
theorem AWP.exit {Q : APost} {id : Nat} (h : Q (.exit id) s) : AWP P E (.exit id) Q s := fun a w hr => wp_exit ⟨s, h, hr⟩
theorem AWP.label {Q : APost} {l : Nat} (h : Q .normal s) : AWP P E (.label l) Q s := fun a w hr => wp_label ⟨s, h, hr⟩

theorem AWP.seq {x y : Code} {Q : APost} (h : AWP P E x (athen (AWP P E y Q) Q) s) : AWP P E (.seq x y) Q s := by
  intro a w hr
  refine wp_seq (wp_mono (h a w hr) ?_)
  rintro e a' w' ⟨s', h1, h2⟩
  cases e <;> first | exact ⟨s', h1, h2⟩ | exact h1 a' w' h2

theorem AWP.cond {c : Operand} {x y : Code} {Q : APost} {b : Bool} (hc : s.eval c = .c (.v (.bool b))) (h : if b then AWP P E x Q s else AWP P E y Q s) : AWP P E (.cond c x y) Q s := by
  rintro a w ⟨F, B, U, hr, hU⟩
  have hb := rep_v (hc ▸ eval_rep hr c)
  cases b
  · exact wp_cond hb (h a w ⟨F, B, U, hr, hU⟩)
  · exact wp_cond hb (h a w ⟨F, B, U, hr, hU⟩)

theorem AWP.block {id : Nat} {c : Code} {Q : APost} (h : AWP P E c (ainBlock id Q) s) : AWP P E (.block id c) Q s := by
  intro a w hr
  refine wp_block (wp_mono (h a w hr) ?_)
  rintro e a' w' ⟨s', h1, h2⟩
  cases e <;> simp only [Exit.inBlock, ainBlock] at h1 ⊢ <;> first
    | exact ⟨s', h1, h2⟩
    | (split at h1 <;> rename_i hid <;> simp only [hid, if_true, if_false] <;> exact ⟨s', h1, h2⟩)

theorem AWP.region (hT : Tab.ok P T = true) {id : Nat} {ops : Array Oper} {Q : APost} (h : arun q P T ops ops.toList s (Q .normal)) : AWP P E (.region id ops false) Q s := by
  intro a w hr
  exact wp_region_list (arun_sound hT (fun s a w hk hr => ⟨s, hk, hr⟩) _ _ _ _ hr h)

/-- s tells less than s0. -/
structure Le (s0 s : AState) : Prop where
  len : s.tmps.length = s0.tmps.length
  tmps : ∀ (i : Nat) x, s.tmps[i]? = some x → x = .junk ∨ s0.tmps[i]? = some x
  objs : ∀ l o, s.objs l = some o → s0.objs l = some o
  wfT : ∀ x ∈ s.tmps, x.lo (fun l => l < s.next)
  wfO : ∀ l o, s.objs l = some o → l < s.next ∧ o.lo (fun l => l < s.next)
  pos : 0 < s.next

theorem lo_and {U V : Nat → Prop} : ∀ (x : AV), x.lo U → x.lo V → x.lo (fun l => U l ∧ V l)
  | .junk, _, _ => by simp only [AV.lo]
  | .c _, _, _ => by simp only [AV.lo]
  | .agg cs, h, k => by simp only [AV.lo] at *; exact fun y hy => lo_and y (h y hy) (k y hy)
  | .tup cs, h, k => by simp only [AV.lo] at *; exact fun y hy => lo_and y (h y hy) (k y hy)
  | .ref l _, h, k => by simp only [AV.lo] at *; exact ⟨h, k⟩
  | .eref l _ _ _, h, k => by simp only [AV.lo] at *; exact ⟨h, k⟩
  | .lsl l _ _ _, h, k => by simp only [AV.lo] at *; exact ⟨h, k⟩
  | .fn _ caps, h, k => by simp only [AV.lo] at *; exact fun y hy => lo_and y (h y hy) (k y hy)

theorem Rel.le {s0 s : AState} (h : Rel E s0 a w) (hle : Le s0 s) : Rel E s a w := by
  obtain ⟨F, B, U, hr, hU⟩ := h
  have hB : ∀ l, U l → (if (s.objs l).isSome then B l else none) = B l ∨ (if (s.objs l).isSome then B l else none) = none := by
    intro l _
    split
    · exact .inl rfl
    · exact .inr rfl
  have hsub : ∀ l b n, (if (s.objs l).isSome then B l else none) = some (b, n) → B l = some (b, n) := by
    intro l b n hb
    split at hb
    · exact hb
    · cases hb
  refine ⟨F, fun l => if (s.objs l).isSome then B l else none, fun l => U l ∧ l < s.next, ?_, fun l hl => hl.2⟩
  refine { size := hr.size.trans hle.len.symm, tmps := ?_, defers := hr.defers, live := ?_, objs := ?_, inj := ?_, apart := ?_, flt := hr.flt, blt := ?_, fsrc := hr.fsrc, bsrc := ?_, frame := hr.frame, grown := hr.grown, os := hr.os, tape := hr.tape, output := hr.output, wfT := ?_, wfO := ?_, anchor := fun p hp => ⟨⟨(hr.anchor p hp).1, hle.pos⟩, fun b n hb => (hr.anchor p hp).2 b n (hsub _ _ _ hb)⟩ }
  · intro i x v hx hv
    rcases hle.tmps i x hx with rfl | h0
    · exact .junk
    · exact (hr.tmps i x v h0 hv).keep (fun _ h => h) (fun _ _ => rfl) hB (hr.wfT x (List.mem_of_getElem? h0))
  · intro l
    cases ho : s.objs l with
    | none => simp
    | some o =>
      have := hle.objs l o ho
      have hl := (hr.live l)
      simp only [Option.isSome_some, if_true, reduceCtorEq, iff_false]
      intro hb
      rw [hl.1 hb] at this
      cases this
  · intro l b n o hb ho
    have h0 := hle.objs l o ho
    exact (hr.objs l b n o (hsub l b n hb) h0).keep (fun _ h => h) (fun _ _ => rfl) hB rfl (hr.wfO l o h0).2
  · exact fun l l' b n n' hb hb' => hr.inj l l' b n n' (hsub _ _ _ hb) (hsub _ _ _ hb')
  · exact fun l b n hb => hr.apart l b n (hsub _ _ _ hb)
  · exact fun l b n hb => hr.blt l b n (hsub _ _ _ hb)
  · exact fun l b n hb => hr.bsrc l b n (hsub _ _ _ hb)
  · intro x hx
    obtain ⟨i, hi, rfl⟩ := List.mem_iff_getElem.1 hx
    rcases hle.tmps i _ (List.getElem?_eq_getElem hi) with e | h0
    · rw [e]; simp only [AV.lo]
    · exact lo_and _ (hr.wfT _ (List.mem_of_getElem? h0)) (hle.wfT _ hx)
  · intro l o ho
    have h0 := hle.objs l o ho
    refine ⟨⟨(hr.wfO l o h0).1, (hle.wfO l o ho).1⟩, ?_⟩
    have h1 := (hr.wfO l o h0).2
    have h2 := (hle.wfO l o ho).2
    cases o with
    | box t cells => exact fun x hx => lo_and x (h1 x hx) (h2 x hx)
    | arr e sz rows => trivial
    | brr e sz rows => exact fun row hr x hx => lo_and x (h1 row hr x hx) (h2 row hr x hx)

theorem AWP.weaken {c : Code} {Q : APost} {s0 s : AState} (hle : Le s0 s) (h : AWP P E c Q s) : AWP P E c Q s0 := fun a w hr => h a w (hr.le hle)

theorem AWP.loop {c : Code} {Q : APost} {ι : Type} (I : ι → AState) (μ : ι → Nat) (i0 : ι) (h0 : Le s (I i0)) (round : ∀ i, AWP P E c (athen (fun s' => ∃ i', Le s' (I i') ∧ μ i' < μ i) Q) (I i)) : AWP P E (.loop c) Q s := by
  intro a w hr
  have key : ∀ n i, μ i = n → ∀ a w, Rel E (I i) a w → (Code.loop c).wp P (fun e a' w' => ∃ s', Q e s' ∧ Rel E s' a' w') a w := by
    intro n i hi a w hri
    refine wp_loop (fun a w => ∃ i, Rel E (I i) a w) (fun a w => Classical.epsilon fun n => ∃ i, Rel E (I i) a w ∧ μ i = n ∧ ∀ j, Rel E (I j) a w → n ≤ μ j) ⟨i, hri⟩ ?_
    intro a w ⟨i, hri⟩
    have hmin : ∃ n, ∃ i, Rel E (I i) a w ∧ μ i = n ∧ ∀ j, Rel E (I j) a w → n ≤ μ j := by
      have : ∀ n, (∃ i, Rel E (I i) a w ∧ μ i = n) → ∃ n, ∃ i, Rel E (I i) a w ∧ μ i = n ∧ ∀ j, Rel E (I j) a w → n ≤ μ j := by
        intro n
        induction n using Nat.strongRecOn with
        | _ n ih =>
          rintro ⟨i, h1, h2⟩
          by_cases hx : ∃ j, Rel E (I j) a w ∧ μ j < n
          · obtain ⟨j, h3, h4⟩ := hx
            exact ih (μ j) h4 ⟨j, h3, rfl⟩
          · refine ⟨n, i, h1, h2, fun j hj => ?_⟩
            rcases Nat.lt_or_ge (μ j) n with q | q
            · exact absurd ⟨j, hj, q⟩ hx
            · exact q
      exact this _ ⟨i, hri, rfl⟩
    obtain ⟨j, hj1, hj2, hj3⟩ := Classical.epsilon_spec hmin
    refine wp_mono (round j a w hj1) ?_
    rintro e a' w' ⟨s', h1, h2⟩
    cases e <;> first
      | exact ⟨s', h1, h2⟩
      | (obtain ⟨i', h3, h4⟩ := h1
         have hr' := h2.le h3
         refine ⟨⟨i', hr'⟩, ?_⟩
         have hmin' : ∃ n, ∃ i, Rel E (I i) a' w' ∧ μ i = n ∧ ∀ j, Rel E (I j) a' w' → n ≤ μ j := by
           have : ∀ n, (∃ i, Rel E (I i) a' w' ∧ μ i = n) → ∃ n, ∃ i, Rel E (I i) a' w' ∧ μ i = n ∧ ∀ j, Rel E (I j) a' w' → n ≤ μ j := by
             intro n
             induction n using Nat.strongRecOn with
             | _ n ih =>
               rintro ⟨i, h1, h2⟩
               by_cases hx : ∃ j, Rel E (I j) a' w' ∧ μ j < n
               · obtain ⟨j, h3, h4⟩ := hx
                 exact ih (μ j) h4 ⟨j, h3, rfl⟩
               · refine ⟨n, i, h1, h2, fun j hj => ?_⟩
                 rcases Nat.lt_or_ge (μ j) n with q | q
                 · exact absurd ⟨j, hj, q⟩ hx
                 · exact q
           exact this _ ⟨i', hr', rfl⟩
         obtain ⟨k, hk1, hk2, hk3⟩ := Classical.epsilon_spec hmin'
         have := hk3 i' hr'
         rw [hj2] at h4
         exact Nat.lt_of_le_of_lt this h4)
  exact key _ i0 rfl a w (hr.le h0)

end
end Go.Proofs.Ytnnpjblpiecfdaa.Fw
