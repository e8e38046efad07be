/- Loops as steps that are done again and again; values that tell less. No condition. -/
import Derived.Test.YtnnpjblpiecfdaaFwYd
import Derived.Test.YtnnpjblpiecfdaaFwXc
namespace Go.Proofs.Ytnnpjblpiecfdaa.Fw
open Go.RowKit
set_option linter.unusedVariables false
set_option linter.unusedSimpArgs false

/-! ### steps, again and again -/
/-- At most n steps. -/
def runN {S R : Type} (step : S → Option (S ⊕ R)) : Nat → S → Option R
  | 0, _ => none
  | n + 1, s => match step s with
    | some (.inl s') => runN step n s'
    | some (.inr r) => some r
    | none => none
theorem runN_more {S R : Type} {step : S → Option (S ⊕ R)} : ∀ {n m : Nat} {s : S} {r : R}, n ≤ m → runN step n s = some r → runN step m s = some r
  | 0, _, _, _, _, h => by simp [runN] at h
  | n + 1, 0, _, _, hle, _ => absurd hle (by omega)
  | n + 1, m + 1, s, r, hle, h => by
    simp only [runN] at h ⊢
    split at h
    · exact runN_more (by omega) h
    · exact h
    · cases h
open Classical in
/-- The steps' end, where they come to one. -/
noncomputable def iter {S R : Type} (step : S → Option (S ⊕ R)) (s : S) : Option R := if h : ∃ r n, runN step n s = some r then some h.choose else none
theorem iter_run {S R : Type} {step : S → Option (S ⊕ R)} {s : S} {r : R} (h : iter step s = some r) : ∃ n, runN step n s = some r := by
  unfold iter at h
  split at h
  · rename_i hx
    cases h
    exact hx.choose_spec
  · cases h
theorem iter_of_run {S R : Type} {step : S → Option (S ⊕ R)} {s : S} {r : R} {n : Nat} (h : runN step n s = some r) : iter step s = some r := by
  have hx : ∃ r n, runN step n s = some r := ⟨r, n, h⟩
  unfold iter
  rw [dif_pos hx]
  obtain ⟨m, hm⟩ := hx.choose_spec
  have h1 := runN_more (Nat.le_max_left n m) h
  have h2 := runN_more (Nat.le_max_right n m) hm
  rw [h1] at h2
  exact h2.symm
/-- One step on. -/
theorem iter_inl {S R : Type} {step : S → Option (S ⊕ R)} {s s' : S} (h : step s = some (.inl s')) : iter step s = iter step s' := by
  have hr : ∀ r, (iter step s = some r) = (iter step s' = some r) := fun r => by
    rw [eq_iff_iff]
    constructor
    · intro h1
      obtain ⟨n, hn⟩ := iter_run h1
      cases n with
      | zero => simp [runN] at hn
      | succ n => simp only [runN, h] at hn; exact iter_of_run hn
    · intro h1
      obtain ⟨n, hn⟩ := iter_run h1
      exact iter_of_run (n := n + 1) (by simp only [runN, h]; exact hn)
  cases h1 : iter step s with
  | none =>
    cases h2 : iter step s' with
    | none => rfl
    | some r => rw [← hr r] at h2; rw [h1] at h2; cases h2
  | some r => rw [hr r] at h1; exact h1.symm
theorem iter_inr {S R : Type} {step : S → Option (S ⊕ R)} {s : S} {r : R} (h : step s = some (.inr r)) : iter step s = some r :=
  iter_of_run (n := 1) (by simp only [runN, h])
/-- What the steps come to, by a measure. -/
theorem iter_by {S R : Type} {step : S → Option (S ⊕ R)} (I : S → Prop) (μ : S → Nat) (Q : R → Prop) (hs : ∀ s, I s → (∃ s', step s = some (.inl s') ∧ I s' ∧ μ s' < μ s) ∨ (∃ r, step s = some (.inr r) ∧ Q r)) : ∀ s, I s → ∃ r, iter step s = some r ∧ Q r := by
  have main : ∀ n s, μ s < n → I s → ∃ r, iter step s = some r ∧ Q r := by
    intro n
    induction n with
    | zero => intro s h; omega
    | succ n ih =>
      intro s hn hI
      rcases hs s hI with ⟨s', h1, h2, h3⟩ | ⟨r, h1, h2⟩
      · obtain ⟨r, g1, g2⟩ := ih s' (by omega) h2
        exact ⟨r, (iter_inl h1).trans g1, g2⟩
      · exact ⟨r, iter_inr h1, h2⟩
  exact fun s hI => main (μ s + 1) s (by omega) hI

inductive iterK {S R : Type} (step : S → Option (S ⊕ R)) (n : Nat) (r : R) : S ⊕ R → Prop
  | inl {s : S} : runN step n s = some r → iterK step n r (.inl s)
  | inr {r' : R} : r' = r → iterK step n r (.inr r')
/-- What follows a loop or a choice: 'inl' goes on, 'inr' is handed back. -/
def jn {V R : Type} (x : Option (V ⊕ R)) (f : V → Option R) : Option R := x.bind (Sum.elim f some)
inductive jnK {V R : Type} (f : V → Option R) (r : R) : V ⊕ R → Prop
  | inl {v : V} : f v = some r → jnK f r (.inl v)
  | inr {r' : R} : r' = r → jnK f r (.inr r')
section
variable {A B R V : Type} {r : R}
theorem s1i {c : Prop} [Decidable c] {x y : Option A} {f : A → Option R} (h : (if c then x else y).bind f = some r) : (if c then x.bind f else y.bind f) = some r := by
  split at h <;> simp_all
theorem s1s {a : A} {f : A → Option R} (h : (some a).bind f = some r) : f a = some r := h
theorem s1n {f : A → Option R} (h : (none : Option A).bind f = some r) : False := by cases h
theorem s1b {x : Option A} {f : A → Option B} {g : B → Option R} (h : (x.bind f).bind g = some r) : (x.bind fun a => (f a).bind g) = some r := by rw [← Option.bind_assoc]; exact h
theorem s1x {x : Option A} {f : A → Option R} (h : x.bind f = some r) : ∃ a, x = some a ∧ f a = some r := Option.bind_eq_some_iff.1 h
theorem s1ji {c : Prop} [Decidable c] {x y : Option (V ⊕ R)} {f : V → Option R} (h : jn (if c then x else y) f = some r) : (if c then jn x f else jn y f) = some r := by
  split at h <;> simp_all
theorem s1jl {v : V} {f : V → Option R} (h : jn (some (.inl v)) f = some r) : f v = some r := h
theorem s1jr {r' : R} {f : V → Option R} (h : jn (some (.inr r')) f = some r) : some r' = some r := h
theorem s1jn {f : V → Option R} (h : jn none f = some r) : False := by cases h
theorem s1jb {x : Option A} {g : A → Option (V ⊕ R)} {f : V → Option R} (h : jn (x.bind g) f = some r) : (x.bind fun a => jn (g a) f) = some r := by unfold jn at *; rw [← Option.bind_assoc]; exact h
theorem s1jj {W : Type} {x : Option (W ⊕ (V ⊕ R))} {g : W → Option (V ⊕ R)} {f : V → Option R} (h : jn (jn x g) f = some r) : (x.bind fun a => jn (Sum.elim g some a) f) = some r := by
  unfold jn at *; rw [← Option.bind_assoc]; exact h
theorem s1jx {S : Type} {step : S → Option (S ⊕ (V ⊕ R))} {s : S} {f : V → Option R} (h : jn (iter step s) f = some r) : ∃ e, iter step s = some e ∧ jnK f r e := by
  obtain ⟨e, h1, h2⟩ := Option.bind_eq_some_iff.1 h
  refine ⟨e, h1, ?_⟩
  cases e with
  | inl v => exact .inl h2
  | inr r' => exact .inr (Option.some.inj h2)
theorem s1k {f : V → Option R} {v : V} (h : jnK f r (.inl v)) : f v = some r := by cases h with | inl h => exact h
theorem s1kr {f : V → Option R} {r' : R} (h : jnK f r (.inr r')) : r' = r := by cases h with | inr h => exact h
theorem s1t {S : Type} {step : S → Option (S ⊕ R)} {n : Nat} {s : S} (h : iterK step n r (.inl s)) : runN step n s = some r := by cases h with | inl h => exact h
theorem s1tr {S : Type} {step : S → Option (S ⊕ R)} {n : Nat} {r' : R} (h : iterK step n r (.inr r')) : r' = r := by cases h with | inr h => exact h
end

/-! ### values that tell less -/
structure AWk (x y : AV) : Prop where
  rep : ∀ {w : World} {F : Nat → Prop} {B : Beta} {v : Value}, ARep w F B v x → ARep w F B v y
  lo : ∀ {U : Nat → Prop}, x.lo U → y.lo U
theorem AWk.refl (x : AV) : AWk x x := ⟨fun h => h, fun h => h⟩
theorem AWk.junk (x : AV) : AWk x .junk := ⟨fun _ => .junk, fun _ => by simp only [AV.lo]⟩
theorem AWk.c {x y : CV} (h : CWk x y) : AWk (.c x) (.c y) := ⟨fun hx => by cases hx with | c hx => exact .c (h hx), fun _ => by simp only [AV.lo]⟩
def AWkL : List AV → List AV → Prop
  | [], [] => True
  | x :: xs, y :: ys => AWk x y ∧ AWkL xs ys
  | _, _ => False
theorem AWkL.get : ∀ {xs ys : List AV}, AWkL xs ys → ys.length = xs.length ∧ ∀ (i : Nat) y, ys[i]? = some y → ∃ x, xs[i]? = some x ∧ AWk x y
  | [], [], _ => ⟨rfl, fun i y h => by simp at h⟩
  | x :: xs, y :: ys, h => by
    obtain ⟨g1, g2⟩ := AWkL.get h.2
    refine ⟨by simp [g1], fun i z hz => ?_⟩
    cases i with
    | zero =>
      simp only [List.getElem?_cons_zero, Option.some.injEq] at hz
      subst hz
      exact ⟨x, rfl, h.1⟩
    | succ i => exact g2 i z (by simpa using hz)
  | [], _ :: _, h => h.elim
  | _ :: _, [], h => h.elim
theorem AWkL.lo {U : Nat → Prop} {xs ys : List AV} (h : AWkL xs ys) (hx : ∀ x ∈ xs, x.lo U) : ∀ y ∈ ys, y.lo U := by
  intro y hy
  obtain ⟨i, hi, rfl⟩ := List.mem_iff_getElem.1 hy
  obtain ⟨x, h1, h2⟩ := h.get.2 i _ (List.getElem?_eq_getElem hi)
  exact h2.lo (hx x (List.mem_of_getElem? h1))
theorem AWk.agg {xs ys : List AV} (h : AWkL xs ys) : AWk (.agg xs) (.agg ys) := by
  refine ⟨fun hx => ?_, fun hx => ?_⟩
  · cases hx with
    | agg h1 h2 =>
      refine .agg (h1.trans h.get.1.symm) fun i y v hy hv => ?_
      obtain ⟨x, g1, g2⟩ := h.get.2 i y hy
      exact g2.rep (h2 i x v g1 hv)
  · simp only [AV.lo] at hx ⊢
    exact h.lo hx
theorem AWkL.refl : ∀ (xs : List AV), AWkL xs xs
  | [] => trivial
  | x :: xs => ⟨.refl x, AWkL.refl xs⟩
theorem AWkL.nil : AWkL [] [] := trivial
theorem AWkL.cons {x y : AV} {xs ys : List AV} (h1 : AWk x y) (h2 : AWkL xs ys) : AWkL (x :: xs) (y :: ys) := ⟨h1, h2⟩
structure OWk (o o' : AObj) : Prop where
  ok : ∀ {w : World} {F : Nat → Prop} {B : Beta} {b n : Nat}, ObjOk w F B b n o → ObjOk w F B b n o'
  lo : ∀ {U : Nat → Prop}, o.lo U → o'.lo U
theorem OWk.refl (o : AObj) : OWk o o := ⟨fun h => h, fun h => h⟩
theorem OWk.box {t : TypeId} {xs ys : List AV} (h : AWkL xs ys) : OWk (.box t xs) (.box t ys) := by
  refine ⟨fun hx => ?_, fun hx => h.lo hx⟩
  obtain ⟨C, h1, h2, h3⟩ := hx
  refine ⟨C, h1, h2.trans h.get.1.symm, fun j y v hy hv => ?_⟩
  obtain ⟨x, g1, g2⟩ := h.get.2 j y hy
  exact g2.rep (h3 j x v g1 hv)

/-! ### a state that tells less, by its lists -/
def objsM : List (Nat × Option AObj) → Nat → Option AObj
  | [], _ => none
  | (l, o) :: r, k => if k = l then o else objsM r k
def leM (ob0 : Nat → Option AObj) (n : Nat) : List (Nat × Option AObj) → Prop
  | [] => True
  | (l, o) :: r => (∀ o', o = some o' → ∃ o0, ob0 l = some o0 ∧ OWk o0 o' ∧ l < n ∧ o'.lo (fun l => l < n)) ∧ leM ob0 n r
theorem leM_get {ob0 : Nat → Option AObj} {n : Nat} : ∀ {L : List (Nat × Option AObj)}, leM ob0 n L → ∀ l o, objsM L l = some o → ∃ o0, ob0 l = some o0 ∧ OWk o0 o ∧ l < n ∧ o.lo (fun l => l < n)
  | [], _, l, o, h => by simp [objsM] at h
  | (k, u) :: r, h, l, o, ho => by
    simp only [objsM] at ho
    split at ho
    · rename_i e; subst e; exact h.1 o ho
    · exact leM_get h.2 l o ho
theorem leM_nil {ob0 : Nat → Option AObj} {n : Nat} : leM ob0 n [] := trivial
theorem leM_none {ob0 : Nat → Option AObj} {n l : Nat} {r : List (Nat × Option AObj)} (h : leM ob0 n r) : leM ob0 n ((l, none) :: r) := ⟨fun _ h => (by cases h), h⟩
theorem leM_some {ob0 : Nat → Option AObj} {n l : Nat} {o0 o : AObj} {r : List (Nat × Option AObj)} (h1 : ob0 l = some o0) (h2 : OWk o0 o) (h3 : l < n) (h4 : o.lo (fun l => l < n)) (h : leM ob0 n r) : leM ob0 n ((l, some o) :: r) :=
  ⟨fun _ h => (by cases h; exact ⟨o0, h1, h2, h3, h4⟩), h⟩

structure LeW (s0 s : AState) : Prop where
  tmps : AWkL s0.tmps s.tmps
  objs : ∀ l o, s.objs l = some o → ∃ o0, s0.objs l = some o0 ∧ OWk o0 o
  wfT : ∀ x ∈ s.tmps, x.lo (fun l => l < s.next)
  wfO : ∀ l o, s.objs l = some o → l < s.next ∧ o.lo (fun l => l < s.next)
  pos : 0 < s.next
theorem Rel.leW {E : Entry} {s0 s : AState} {a : Act} {w : World} (h : Rel E s0 a w) (hle : LeW s0 s) : Rel E s a w := by
  obtain ⟨F, B, U, hr, hU⟩ := h
  have hB : ∀ l, U l → (if (s.objs l).isSome then B l else none) = B l ∨ (if (s.objs l).isSome then B l else none) = none := by
    intro l _
    split
    · exact .inl rfl
    · exact .inr rfl
  have hsub : ∀ l b n, (if (s.objs l).isSome then B l else none) = some (b, n) → B l = some (b, n) := by
    intro l b n hb
    split at hb
    · exact hb
    · cases hb
  refine ⟨F, fun l => if (s.objs l).isSome then B l else none, fun l => U l ∧ l < s.next, ?_, fun l hl => hl.2⟩
  refine { size := hr.size.trans hle.tmps.get.1.symm, tmps := ?_, defers := hr.defers, live := ?_, objs := ?_, inj := ?_, apart := ?_, flt := hr.flt, blt := ?_, fsrc := hr.fsrc, bsrc := ?_, frame := hr.frame, grown := hr.grown, os := hr.os, tape := hr.tape, output := hr.output, wfT := ?_, wfO := ?_, anchor := fun p hp => ⟨⟨(hr.anchor p hp).1, hle.pos⟩, fun b n hb => (hr.anchor p hp).2 b n (hsub _ _ _ hb)⟩ }
  · intro i x v hx hv
    obtain ⟨y, h0, hy⟩ := hle.tmps.get.2 i x hx
    exact hy.rep ((hr.tmps i y v h0 hv).keep (fun _ h => h) (fun _ _ => rfl) hB (hr.wfT y (List.mem_of_getElem? h0)))
  · intro l
    cases ho : s.objs l with
    | none => simp
    | some o =>
      obtain ⟨o0, this, _⟩ := hle.objs l o ho
      have hl := (hr.live l)
      simp only [Option.isSome_some, if_true, reduceCtorEq, iff_false]
      intro hb
      rw [hl.1 hb] at this
      cases this
  · intro l b n o hb ho
    obtain ⟨o0, h0, h1⟩ := hle.objs l o ho
    exact h1.ok ((hr.objs l b n o0 (hsub l b n hb) h0).keep (fun _ h => h) (fun _ _ => rfl) hB rfl (hr.wfO l o0 h0).2)
  · exact fun l l' b n n' hb hb' => hr.inj l l' b n n' (hsub _ _ _ hb) (hsub _ _ _ hb')
  · exact fun l b n hb => hr.apart l b n (hsub _ _ _ hb)
  · exact fun l b n hb => hr.blt l b n (hsub _ _ _ hb)
  · exact fun l b n hb => hr.bsrc l b n (hsub _ _ _ hb)
  · intro x hx
    obtain ⟨i, hi, rfl⟩ := List.mem_iff_getElem.1 hx
    obtain ⟨y, h0, hy⟩ := hle.tmps.get.2 i _ (List.getElem?_eq_getElem hi)
    exact lo_and _ (hy.lo (hr.wfT _ (List.mem_of_getElem? h0))) (hle.wfT _ hx)
  · intro l o ho
    obtain ⟨o0, h0, h3⟩ := hle.objs l o ho
    refine ⟨⟨(hr.wfO l o0 h0).1, (hle.wfO l o ho).1⟩, ?_⟩
    have h1 := h3.lo (hr.wfO l o0 h0).2
    have h2 := (hle.wfO l o ho).2
    cases o with
    | box t cells => exact fun x hx => lo_and x (h1 x hx) (h2 x hx)
    | arr e sz rows => trivial
    | brr e sz rows => exact fun row hr x hx => lo_and x (h1 row hr x hx) (h2 row hr x hx)
theorem Wk.of_M {t0 t : List AV} {ob0 : Nat → Option AObj} {n0 n : Nat} {L : List (Nat × Option AObj)} (ht : AWkL t0 t) (hlo : ∀ x ∈ t, x.lo (fun l => l < n)) (hO : leM ob0 n L) (hn : 0 < n) : Wk ⟨t0, ob0, n0⟩ ⟨t, objsM L, n⟩ := fun _ _ _ h =>
  h.leW ⟨ht, fun l o h => by obtain ⟨o0, h1, h2, _⟩ := leM_get hO l o h; exact ⟨o0, h1, h2⟩, hlo, fun l o h => by obtain ⟨o0, h1, h2, h3⟩ := leM_get hO l o h; exact h3, hn⟩

/-! ### the states at a loop's head, told out of the state that comes to it -/
def setL : List (Nat × AV) → List AV → List AV
  | [], t => t
  | (i, x) :: l, t => setL l (t.set i x)
def nm : AV → Nat
  | .ref l _ => l
  | .lsl l _ _ _ => l
  | .eref l _ _ _ => l
  | _ => 0
def nmO (off c : Nat) : Option AObj → AV
  | some (.box _ cells) => cells.getD (off + c) .junk
  | _ => .junk
def nmC (ob : Nat → Option AObj) (c : Nat) : AV → AV
  | .ref l off => nmO off c (ob l)
  | _ => .junk
/-- The name of the object that a value leads to; through variables' cells. -/
def nmAt (ob : Nat → Option AObj) : AV → List Nat → Nat
  | x, [] => nm x
  | x, c :: cs => nmAt ob (nmC ob c x) cs
def fam {S : Type} (F : List AV → (Nat → Option AObj) → S → List (Nat × AV)) (O : List AV → (Nat → Option AObj) → S → List (Nat × Option AObj)) (t : List AV) (ob : Nat → Option AObj) (n : Nat) (σ : S) : AState := ⟨setL (F t ob σ) t, objsM (O t ob σ), n⟩
def mkL (t' : List AV) (ob' : Nat → Option AObj) (t : List AV) (ob : Nat → Option AObj) (ps : List (Nat × List Nat)) : List (Nat × Nat) := (0, 0) :: ps.map fun p => (nmAt ob' (t'.getD p.1 .junk) p.2, nmAt ob (t.getD p.1 .junk) p.2)
theorem Wk.auto {t' : List AV} {ob' : Nat → Option AObj} {n' : Nat} {u : AState} (L : List (Nat × Nat)) (hok : okRen L = true) (h : Wk (AState.ren ⟨t', ob', n'⟩ L) u) : Wk ⟨t', ob', n'⟩ u := (Wk.ren _ L hok).trans h
section
variable {P : Program} {T : Tab} {E : Entry}
theorem vc_of_iter0 (hT : Tab.ok P T = true) {c : Code} {Q : APost} {S R : Type} {step : S → Option (S ⊕ R)} {s0 : S} {r : R} {sI : AState} {t : List AV} {ob : Nat → Option AObj} {n : Nat} (F : List AV → (Nat → Option AObj) → S → List (Nat × AV)) (O : List AV → (Nat → Option AObj) → S → List (Nat × Option AObj))
    (h : iter step s0 = some r) (h0 : Wk sI (fam F O t ob n s0))
    (round : ∀ m σ x, step σ = some x → iterK step m r x → vc P T E c (athen (fun s' => ∃ k σ', runN step k σ' = some r ∧ k < m + 1 ∧ Wk s' (fam F O t ob n σ')) Q) (fam F O t ob n σ)) : vc P T E (.loop c) Q sI := by
  obtain ⟨m0, hm0⟩ := iter_run h
  refine AWP.loopW (ι := {q : Nat × S // runN step q.1 q.2 = some r}) (fun q => fam F O t ob n q.1.2) (fun q => q.1.1) ⟨(m0, s0), hm0⟩ h0 ?_
  rintro ⟨⟨m, σ⟩, hm⟩
  cases m with
  | zero => simp [runN] at hm
  | succ m =>
    simp only [runN] at hm
    cases hs : step σ with
    | none => rw [hs] at hm; cases hm
    | some x =>
      rw [hs] at hm
      have hx : iterK step m r x := by
        cases x with
        | inl σ' => exact .inl hm
        | inr r' => exact .inr (Option.some.inj hm)
      refine (vc_sound hT c (round m σ x hs hx)).mono fun e s' hq => ?_
      cases e with
      | normal =>
        obtain ⟨k, σ', h1, h2, h3⟩ := hq
        exact ⟨⟨(k, σ'), h1⟩, h3, h2⟩
      | _ => exact hq
theorem vc_of_iter (hT : Tab.ok P T = true) {c : Code} {Q : APost} {S R : Type} {step : S → Option (S ⊕ R)} {s0 : S} {r : R} {t : List AV} {ob : Nat → Option AObj} {n : Nat} (F : List AV → (Nat → Option AObj) → S → List (Nat × AV)) (O : List AV → (Nat → Option AObj) → S → List (Nat × Option AObj))
    (h : iter step s0 = some r) (h0 : Wk ⟨t, ob, n⟩ (fam F O t ob n s0))
    (round : ∀ m σ x, step σ = some x → iterK step m r x → vc P T E c (athen (fun s' => ∃ k σ', runN step k σ' = some r ∧ k < m + 1 ∧ Wk s' (fam F O t ob n σ')) Q) (fam F O t ob n σ)) : vc P T E (.loop c) Q ⟨t, ob, n⟩ := by
  obtain ⟨m0, hm0⟩ := iter_run h
  refine AWP.loopW (ι := {q : Nat × S // runN step q.1 q.2 = some r}) (fun q => fam F O t ob n q.1.2) (fun q => q.1.1) ⟨(m0, s0), hm0⟩ h0 ?_
  rintro ⟨⟨m, σ⟩, hm⟩
  cases m with
  | zero => simp [runN] at hm
  | succ m =>
    simp only [runN] at hm
    cases hs : step σ with
    | none => rw [hs] at hm; cases hm
    | some x =>
      rw [hs] at hm
      have hx : iterK step m r x := by
        cases x with
        | inl σ' => exact .inl hm
        | inr r' => exact .inr (Option.some.inj hm)
      refine (vc_sound hT c (round m σ x hs hx)).mono fun e s' hq => ?_
      cases e with
      | normal =>
        obtain ⟨k, σ', h1, h2, h3⟩ := hq
        exact ⟨⟨(k, σ'), h1⟩, h3, h2⟩
      | _ => exact hq
end
end Go.Proofs.Ytnnpjblpiecfdaa.Fw
