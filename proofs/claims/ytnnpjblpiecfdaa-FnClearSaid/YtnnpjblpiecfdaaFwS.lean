/- Code as one condition on the abstract state, and how that condition is reckoned. -/
import Derived.Test.YtnnpjblpiecfdaaFwR
namespace Go.Proofs.Ytnnpjblpiecfdaa.Fw
open Go.RowKit
set_option linter.unusedVariables false
set_option linter.unusedSimpArgs false

/-- The condition under which code comes to what the post tells; it stops at loops and at regions that draw. -/
def vc (P : Program) (T : Tab) (E : Entry) : Code → APost → AState → Prop
  | .skip, Q, s => Q .normal s
  | .region id ops draw, Q, s => match draw with
    | false => arun false P T ops ops.toList s (Q .normal)
    | true => AWP P E (.region id ops true) Q s
  | .seq a b, Q, s => vc P T E a (athen (vc P T E b Q) Q) s
  | .cond c a b, Q, s => match s.eval c with
    | .c (.v (.bool t)) => if t = true then vc P T E a Q s else vc P T E b Q s
    | _ => False
  | .block id b, Q, s => vc P T E b (ainBlock id Q) s
  | .loop b, Q, s => AWP P E (.loop b) Q s
  | .exit id, Q, s => Q (.exit id) s
  | .ret, Q, s => Q .ret s
  | .label _, Q, s => Q .normal s
  | _, _, _ => False

theorem vc_sound {P : Program} {T : Tab} (hT : Tab.ok P T = true) {E : Entry} : ∀ (c : Code) {Q : APost} {s : AState}, vc P T E c Q s → AWP P E c Q s := by
  intro c
  induction c with
  | skip => intro Q s h; exact .skip h
  | region id ops draw =>
    intro Q s h
    cases draw with
    | false => exact .region hT h
    | true => exact h
  | seq a b iha ihb =>
    intro Q s h
    refine .seq ((iha h).mono fun e s' hq => ?_)
    cases e <;> first | exact hq | exact ihb hq
  | cond c a b iha ihb =>
    intro Q s h
    simp only [vc] at h
    split at h
    · rename_i t ht
      refine .cond ht ?_
      cases t
      · exact ihb (by simpa using h)
      · exact iha (by simpa using h)
    · exact h.elim
  | block id b ih => intro Q s h; exact .block (ih h)
  | loop b ih => intro Q s h; exact h
  | exit id => intro Q s h; exact .exit h
  | ret => intro Q s h; exact .ret h
  | label l => intro Q s h; exact .label h
  | _ => intro Q s h; exact h.elim

/-! ### reckoning, without a look at what follows -/
section
variable {q : Bool} {P : Program} {T : Tab} {E : Entry} {ops : Array Oper} {rest : List Oper} {dst : Option Tmp} {s : AState} {K : AState → Prop} {Q : APost}

def Kont (q : Bool) (P : Program) (T : Tab) (ops : Array Oper) (rest : List Oper) (dst : Option Tmp) (K : AState → Prop) (x : AV) (s' : AState) : Prop := arun q P T ops rest ((s'.put dst x).bump) K
def Step (q : Bool) (P : Program) (T : Tab) (ops : Array Oper) (rest : List Oper) (dst : Option Tmp) (K : AState → Prop) (s : AState) (op : Op) : Prop := aop q P T s s.next ⟨none, op, 0, "", #[], none⟩ (Kont q P T ops rest dst K)
def Val (q : Bool) (P : Program) (T : Tab) (ops : Array Oper) (rest : List Oper) (dst : Option Tmp) (K : AState → Prop) (s : AState) : Option AV → Prop
  | some x => arun q P T ops rest ((s.put dst x).bump) K
  | none => False
def Efx (q : Bool) (P : Program) (T : Tab) (ops : Array Oper) (rest : List Oper) (dst : Option Tmp) (K : AState → Prop) (s : AState) : Option (AV × Eff) → Prop
  | some (x, e) => arun q P T ops rest (((s.eff s.next e).put dst x).bump) K
  | none => False
def Cal (q : Bool) (P : Program) (T : Tab) (ops : Array Oper) (rest : List Oper) (dst : Option Tmp) (K : AState → Prop) (s : AState) (xs : List AV) : AV → Prop
  | .fn g caps => acall q P s s.next g (xs ++ caps) (Kont q P T ops rest dst K)
  | .c (.fn g caps) => acall q P s s.next g (xs ++ caps.map .c) (Kont q P T ops rest dst K)
  | _ => False
def Grd (q : Bool) (P : Program) (T : Tab) (ops : Array Oper) (rest : List Oper) (dst : Option Tmp) (K : AState → Prop) (s : AState) (op : Op) (want : Bool) : Option (Option Bool) → Prop
  | some b => if b = some want then Step q P T ops rest dst K s op else arun q P T ops rest ((s.put dst (.tup [])).bump) K
  | none => False
def Cnd (P : Program) (T : Tab) (E : Entry) (a b : Code) (Q : APost) (s : AState) : AV → Prop
  | .c (.v (.bool t)) => if t = true then vc P T E a Q s else vc P T E b Q s
  | _ => False

theorem arun_nil : arun q P T ops [] s K = K s := _root_.id rfl
theorem arun_none (op : Op) (ty : TypeId) (pos : String) (af : Array Edge) : arun q P T ops (⟨dst, op, ty, pos, af, none⟩ :: rest) s K = Step q P T ops rest dst K s op := _root_.id rfl
theorem arun_grd (op : Op) (ty : TypeId) (pos : String) (af : Array Edge) (j : Nat) (want : Bool) : arun q P T ops (⟨dst, op, ty, pos, af, some (j, want)⟩ :: rest) s K = Grd q P T ops rest dst K s op want (ayield ops s j) := by
  simp only [arun, Grd]
  rfl
theorem Grd_yes (op : Op) : Grd q P T ops rest dst K s op true (some (some true)) = Step q P T ops rest dst K s op := by simp [Grd]
theorem Grd_no (op : Op) : Grd q P T ops rest dst K s op true (some (some false)) = arun q P T ops rest ((s.put dst (.tup [])).bump) K := by simp [Grd]
theorem Grd_yes' (op : Op) : Grd q P T ops rest dst K s op false (some (some false)) = Step q P T ops rest dst K s op := by simp [Grd]
theorem Grd_no' (op : Op) : Grd q P T ops rest dst K s op false (some (some true)) = arun q P T ops rest ((s.put dst (.tup [])).bump) K := by simp [Grd]
theorem Grd_gone (op : Op) (want : Bool) : Grd q P T ops rest dst K s op want (some none) = arun q P T ops rest ((s.put dst (.tup [])).bump) K := by simp [Grd]
theorem Val_some (x : AV) : Val q P T ops rest dst K s (some x) = arun q P T ops rest ((s.put dst x).bump) K := _root_.id rfl
theorem Efx_some (x : AV) (e : Eff) : Efx q P T ops rest dst K s (some (x, e)) = arun q P T ops rest (((s.eff s.next e).put dst x).bump) K := _root_.id rfl
theorem Cal_fn (g : FuncId) (xs caps : List AV) : Cal q P T ops rest dst K s xs (.fn g caps) = acall q P s s.next g (xs ++ caps) (Kont q P T ops rest dst K) := _root_.id rfl
theorem Cal_c (g : FuncId) (xs : List AV) (caps : List CV) : Cal q P T ops rest dst K s xs (.c (.fn g caps)) = acall q P s s.next g (xs ++ caps.map .c) (Kont q P T ops rest dst K) := _root_.id rfl
theorem Cnd_true (a b : Code) : Cnd P T E a b Q s (.c (.v (.bool true))) = vc P T E a Q s := by simp [Cnd]
theorem Cnd_false (a b : Code) : Cnd P T E a b Q s (.c (.v (.bool false))) = vc P T E b Q s := by simp [Cnd]

theorem z2 {a b : Code} {t : Bool} (h1 : t = true → vc P T E a Q s) (h2 : t = false → vc P T E b Q s) : Cnd P T E a b Q s (.c (.v (.bool t))) := by
  cases t
  · rw [Cnd_false]; exact h2 rfl
  · rw [Cnd_true]; exact h1 rfl
theorem z5 {op : Op} {t : Bool} (h1 : t = true → Step q P T ops rest dst K s op) (h2 : t = false → arun q P T ops rest ((s.put dst (.tup [])).bump) K) : Grd q P T ops rest dst K s op true (some (some t)) := by
  cases t
  · rw [Grd_no]; exact h2 rfl
  · rw [Grd_yes]; exact h1 rfl
theorem z6 {op : Op} {t : Bool} (h1 : t = false → Step q P T ops rest dst K s op) (h2 : t = true → arun q P T ops rest ((s.put dst (.tup [])).bump) K) : Grd q P T ops rest dst K s op false (some (some t)) := by
  cases t
  · rw [Grd_yes']; exact h1 rfl
  · rw [Grd_no']; exact h2 rfl

def EfxF (q : Bool) (P : Program) (T : Tab) (ops : Array Oper) (rest : List Oper) (dst : Option Tmp) (K : AState → Prop) (s : AState) (op : Op) : Option (AV × Eff) → Prop
  | some (x, e) => arun q P T ops rest (((s.eff s.next e).put dst x).bump) K
  | none => frzTry q T s s.next op (Kont q P T ops rest dst K)

theorem step_frz {op : Op} (h : aop q P T s s.next ⟨none, op, 0, "", #[], none⟩ (Kont q P T ops rest dst K) = (match aeff T s s.next op with | some (x, e) => Kont q P T ops rest dst K x (s.eff s.next e) | none => frzTry q T s s.next op (Kont q P T ops rest dst K))) : Step q P T ops rest dst K s op = EfxF q P T ops rest dst K s op (aeff T s s.next op) := by
  unfold Step
  rw [h]
  cases aeff T s s.next op with
  | none => rfl
  | some p => rfl
def noE : Option AV → Option (AV × Eff)
  | some x => some (x, .no)
  | none => none
theorem EfxF_some (op : Op) (x : AV) (e : Eff) : EfxF q P T ops rest dst K s op (some (x, e)) = arun q P T ops rest (((s.eff s.next e).put dst x).bump) K := _root_.id rfl
theorem EfxF_none (op : Op) : EfxF false P T ops rest dst K s op none = Efx false P T ops rest dst K (s.frzL (lslsV (frzVals s op))) (aeff T (s.frzL (lslsV (frzVals s op))) (s.frzL (lslsV (frzVals s op))).next op) := by
  simp only [EfxF, frzTry, true_and]
  have hn := frzL_next (lslsV (frzVals s op)) s
  rw [hn]
  cases aeff T (s.frzL (lslsV (frzVals s op))) s.next op with
  | none => rfl
  | some p => obtain ⟨x, e⟩ := p; simp only [Efx, Kont, hn]

theorem step_pure {op : Op} (h : aop q P T s s.next ⟨none, op, 0, "", #[], none⟩ (Kont q P T ops rest dst K) = (match aeff T s s.next op with | some (x, e) => Kont q P T ops rest dst K x (s.eff s.next e) | none => frzTry q T s s.next op (Kont q P T ops rest dst K))) (hf : frzVals s op = []) : Step q P T ops rest dst K s op = Efx q P T ops rest dst K s (aeff T s s.next op) := by
  rw [step_frz h]
  cases ha : aeff T s s.next op with
  | none =>
    refine propext ⟨fun hx => ?_, fun hx => hx.elim⟩
    obtain ⟨_, hx⟩ := hx
    rw [hf] at hx
    simp only [lslsV, AState.frzL, ha] at hx
  | some p => rfl

theorem efx_map (r : Option AV) : Efx q P T ops rest dst K s (r.map fun x => (x, Eff.no)) = Val q P T ops rest dst K s r := by cases r <;> rfl

theorem Step_move (x : Operand) : Step q P T ops rest dst K s (.move x) = arun q P T ops rest ((s.put dst (s.eval x)).bump) K := _root_.id rfl
theorem Step_assign (x : Operand) : Step q P T ops rest dst K s (.assign x) = arun q P T ops rest ((s.put dst (s.eval x)).bump) K := _root_.id rfl
def apick (s : AState) (a b : Operand) : AV → Option AV
  | .c (.v (.bool t)) => some (if t then s.eval a else s.eval b)
  | _ => none
theorem Step_pick (c a b : Operand) : Step q P T ops rest dst K s (.pick c a b) = Val q P T ops rest dst K s (apick s a b (s.eval c)) := by
  have h : apure T s (.pick c a b) = (apick s a b (s.eval c)) := by
    simp only [apure]
    unfold apick
    rfl
  rw [step_pure rfl rfl, show aeff T s s.next (.pick c a b) = (apick s a b (s.eval c)).map (fun x => (x, Eff.no)) from by rw [← h]; simp only [aeff]; cases apure T s (.pick c a b) <;> rfl, efx_map]
theorem apick_true (a b : Operand) : apick s a b (.c (.v (.bool true))) = some (s.eval a) := _root_.id rfl
theorem apick_false (a b : Operand) : apick s a b (.c (.v (.bool false))) = some (s.eval b) := _root_.id rfl
def loaded (agg : Bool) : Option (List AV) → Option AV
  | some cs => if agg then some (.agg cs) else (match cs with | [x] => some x | _ => none)
  | none => none
def aload (s : AState) (p : AV) : Option TI → Option AV
  | some i => loaded i.d.isAgg (readAt s i.size p)
  | none => none
theorem Step_load (t : TypeId) (p : Operand) : Step q P T ops rest dst K s (.load t p) = Val q P T ops rest dst K s (aload s (s.eval p) (T.get t)) := by
  have h : apure T s (.load t p) = (aload s (s.eval p) (T.get t)) := by
    simp only [apure]
    unfold aload
    cases T.get t with
    | none => rfl
    | some i => cases h : readAt s i.size (s.eval p) <;> simp [loaded, h] <;> rfl
  rw [step_pure rfl rfl, show aeff T s s.next (.load t p) = (aload s (s.eval p) (T.get t)).map (fun x => (x, Eff.no)) from by rw [← h]; simp only [aeff]; cases apure T s (.load t p) <;> rfl, efx_map]
theorem Step_nil (x : Operand) : Step q P T ops rest dst K s (.nilCheck x) = Val q P T ops rest dst K s (anil s (s.eval x)) := by
  have h : apure T s (.nilCheck x) = (anil s (s.eval x)) := _root_.id rfl
  rw [step_pure rfl rfl, show aeff T s s.next (.nilCheck x) = (anil s (s.eval x)).map (fun x => (x, Eff.no)) from by rw [← h]; simp only [aeff]; cases apure T s (.nilCheck x) <;> rfl, efx_map]
theorem Step_bin (op : BinOp) (t yt : TypeId) (x y : Operand) : Step q P T ops rest dst K s (.binOp op t x y yt) = Val q P T ops rest dst K s (abin T s op t (s.eval x) (s.eval y)) := by
  have h : apure T s (.binOp op t x y yt) = (abin T s op t (s.eval x) (s.eval y)) := _root_.id rfl
  rw [step_pure rfl rfl, show aeff T s s.next (.binOp op t x y yt) = (abin T s op t (s.eval x) (s.eval y)).map (fun x => (x, Eff.no)) from by rw [← h]; simp only [aeff]; cases apure T s (.binOp op t x y yt) <;> rfl, efx_map]
theorem Step_un (op : UnOp) (t : TypeId) (x : Operand) : Step q P T ops rest dst K s (.unOp op t x) = Val q P T ops rest dst K s (aun op (s.eval x)) := by
  have h : apure T s (.unOp op t x) = (aun op (s.eval x)) := _root_.id rfl
  rw [step_pure rfl rfl, show aeff T s s.next (.unOp op t x) = (aun op (s.eval x)).map (fun x => (x, Eff.no)) from by rw [← h]; simp only [aeff]; cases apure T s (.unOp op t x) <;> rfl, efx_map]
theorem Step_conv (a b : TypeId) (x : Operand) : Step q P T ops rest dst K s (.convert a b x) = EfxF q P T ops rest dst K s (.convert a b x) (noE (aconv T a b (s.eval x))) := by
  rw [step_frz rfl, show aeff T s s.next (.convert a b x) = noE (aconv T a b (s.eval x)) from by
    have h : apure T s (.convert a b x) = (aconv T a b (s.eval x)) := _root_.id rfl
    rw [← h]; simp only [aeff]; cases apure T s (.convert a b x) <;> rfl]
def arrPN (T : Tab) (t : TypeId) (x : AV) : Option (AV × Eff) := (aarrP T t x).map fun y => (y, Eff.no)
theorem Step_arrP (t : TypeId) (x : Operand) : Step q P T ops rest dst K s (.sliceToArrayPointer t x) = EfxF q P T ops rest dst K s (.sliceToArrayPointer t x) (arrPN T t (s.eval x)) := by
  rw [step_frz rfl, show aeff T s s.next (.sliceToArrayPointer t x) = arrPN T t (s.eval x) from by
    have h : apure T s (.sliceToArrayPointer t x) = (aarrP T t (s.eval x)) := _root_.id rfl
    unfold arrPN
    rw [← h]; simp only [aeff]; cases apure T s (.sliceToArrayPointer t x) <;> rfl]
theorem Step_slice (t : TypeId) (x : Operand) (lo hi mx : Option Operand) : Step q P T ops rest dst K s (.slice t x lo hi mx) = Val q P T ops rest dst K s (aslice T s t (s.eval x) (lo.map s.eval) (hi.map s.eval) (mx.map s.eval)) := by
  have h : apure T s (.slice t x lo hi mx) = (aslice T s t (s.eval x) (lo.map s.eval) (hi.map s.eval) (mx.map s.eval)) := _root_.id rfl
  rw [step_pure rfl rfl, show aeff T s s.next (.slice t x lo hi mx) = (aslice T s t (s.eval x) (lo.map s.eval) (hi.map s.eval) (mx.map s.eval)).map (fun x => (x, Eff.no)) from by rw [← h]; simp only [aeff]; cases apure T s (.slice t x lo hi mx) <;> rfl, efx_map]
theorem Step_fieldAddr (t : TypeId) (x : Operand) (f : Nat) : Step q P T ops rest dst K s (.fieldAddr t x f) = Val q P T ops rest dst K s (afieldAddr T s t f (s.eval x)) := by
  have h : apure T s (.fieldAddr t x f) = (afieldAddr T s t f (s.eval x)) := _root_.id rfl
  rw [step_pure rfl rfl, show aeff T s s.next (.fieldAddr t x f) = (afieldAddr T s t f (s.eval x)).map (fun x => (x, Eff.no)) from by rw [← h]; simp only [aeff]; cases apure T s (.fieldAddr t x f) <;> rfl, efx_map]
def afield2 (T : Tab) (x : AV) : Option (TypeId × Nat) → Option AV
  | some (ft, off) => match x with
    | .agg cs => apart T ft cs off
    | _ => none
  | none => none
def afield (T : Tab) (f : Nat) (x : AV) : Option TD → Option AV
  | some (.struct fs) => afield2 T x fs[f]?
  | _ => none
theorem Step_field (t : TypeId) (x : Operand) (f : Nat) : Step q P T ops rest dst K s (.field t x f) = Val q P T ops rest dst K s (afield T f (s.eval x) (T.desc t)) := by
  have h : apure T s (.field t x f) = (afield T f (s.eval x) (T.desc t)) := by
    simp only [apure]
    unfold Tab.desc
    cases T.get t with
    | none => rfl
    | some i =>
      simp only
      cases i.d with
      | struct fs =>
        simp only [afield]
        cases h : fs[f]? with
        | none => simp [afield2]
        | some p =>
          obtain ⟨ft, off⟩ := p
          cases h2 : s.eval x <;> simp [afield2]
      | _ => rfl
  rw [step_pure rfl rfl, show aeff T s s.next (.field t x f) = (afield T f (s.eval x) (T.desc t)).map (fun x => (x, Eff.no)) from by rw [← h]; simp only [aeff]; cases apure T s (.field t x f) <;> rfl, efx_map]
theorem Step_indexAddr (t : TypeId) (x i : Operand) : Step q P T ops rest dst K s (.indexAddr t x i) = Val q P T ops rest dst K s (aindexAddr T s t (s.eval x) (s.eval i)) := by
  have h : apure T s (.indexAddr t x i) = (aindexAddr T s t (s.eval x) (s.eval i)) := _root_.id rfl
  rw [step_pure rfl rfl, show aeff T s s.next (.indexAddr t x i) = (aindexAddr T s t (s.eval x) (s.eval i)).map (fun x => (x, Eff.no)) from by rw [← h]; simp only [aeff]; cases apure T s (.indexAddr t x i) <;> rfl, efx_map]
theorem Step_index (t : TypeId) (x i : Operand) : Step q P T ops rest dst K s (.index t x i) = Val q P T ops rest dst K s (aindex T t (s.eval x) (s.eval i)) := by
  have h : apure T s (.index t x i) = (aindex T t (s.eval x) (s.eval i)) := _root_.id rfl
  rw [step_pure rfl rfl, show aeff T s s.next (.index t x i) = (aindex T t (s.eval x) (s.eval i)).map (fun x => (x, Eff.no)) from by rw [← h]; simp only [aeff]; cases apure T s (.index t x i) <;> rfl, efx_map]
def aextract (i : Nat) : AV → Option AV
  | .tup cs => cs[i]?
  | _ => none
theorem Step_extract (x : Operand) (i : Nat) : Step q P T ops rest dst K s (.extract x i) = Val q P T ops rest dst K s (aextract i (s.eval x)) := by
  have h : apure T s (.extract x i) = (aextract i (s.eval x)) := by
    simp only [apure]
    unfold aextract
    rfl
  rw [step_pure rfl rfl, show aeff T s s.next (.extract x i) = (aextract i (s.eval x)).map (fun x => (x, Eff.no)) from by rw [← h]; simp only [aeff]; cases apure T s (.extract x i) <;> rfl, efx_map]
theorem Step_makeFunc (f : FuncId) (caps : Array Operand) : Step q P T ops rest dst K s (.makeFunc (.func f) #[] caps) = arun q P T ops rest ((s.put dst (.fn f (caps.toList.map s.eval))).bump) K := _root_.id rfl
theorem Step_alloc (t : TypeId) : Step q P T ops rest dst K s (.alloc t) = Efx q P T ops rest dst K s (aeff T s s.next (.alloc t)) := by rw [step_pure rfl rfl]
theorem Step_box (t : TypeId) (x : Operand) : Step q P T ops rest dst K s (.box t x) = Efx q P T ops rest dst K s (aeff T s s.next (.box t x)) := by rw [step_pure rfl rfl]
theorem Step_build (t : TypeId) (ps : Array (Nat × Operand)) : Step q P T ops rest dst K s (.build t ps) = Val q P T ops rest dst K s (abuild T s t (ps.toList.map fun p => (p.1, s.eval p.2))) := by
  rw [step_pure rfl rfl, show aeff T s s.next (.build t ps) = (abuild T s t (ps.toList.map fun p => (p.1, s.eval p.2))).map (fun x => (x, Eff.no)) from by cases h : (abuild T s t (ps.toList.map fun p => (p.1, s.eval p.2))) <;> simp [aeff, h], efx_map]
theorem Step_buildSlice (t : TypeId) (n : Nat) (ps : Array (Nat × Operand)) : Step q P T ops rest dst K s (.buildSlice t n ps) = EfxF q P T ops rest dst K s (.buildSlice t n ps) (aeff T s s.next (.buildSlice t n ps)) := by rw [step_frz rfl]
theorem Step_makeSlice (t : TypeId) (a b : Operand) : Step q P T ops rest dst K s (.makeSlice t a b) = Efx q P T ops rest dst K s (aeff T s s.next (.makeSlice t a b)) := by rw [step_pure rfl rfl]
theorem Step_store (t : TypeId) (p x : Operand) : Step q P T ops rest dst K s (.store t p x) = EfxF q P T ops rest dst K s (.store t p x) (aeff T s s.next (.store t p x)) := by rw [step_frz rfl]
theorem Step_append (t : TypeId) (x y : Operand) : Step false P T ops rest dst K s (.call ⟨.builtin .append, #[x, y], #[t, t]⟩) = Efx false P T ops rest dst K s (aappend T s s.next t (s.eval x) (s.eval y)) := by
  unfold Step aop
  simp only [aeff, if_true]
  cases h : aappend T s s.next t (s.eval x) (s.eval y) with
  | none => rfl
  | some p =>
    obtain ⟨x, e⟩ := p
    simp only [movV_false, movS_false]
    rfl
def EfxD (P : Program) (T : Tab) (ops : Array Oper) (rest : List Oper) (dst : Option Tmp) (K : AState → Prop) (s : AState) : Option (AV × Eff) → Prop
  | some (x, e) => arun true P T ops rest (((movS true s s.next e).put dst (movV true s.next x e)).bump) K
  | none => False
theorem Step_appendD (t : TypeId) (x y : Operand) : Step true P T ops rest dst K s (.call ⟨.builtin .append, #[x, y], #[t, t]⟩) = EfxD P T ops rest dst K s (aappend T s s.next t (s.eval x) (s.eval y)) := by
  unfold Step aop
  simp only [aeff, if_true]
  cases h : aappend T s s.next t (s.eval x) (s.eval y) <;> rfl
theorem EfxD_some (x : AV) (e : Eff) : EfxD P T ops rest dst K s (some (x, e)) = arun true P T ops rest (((movS true s s.next e).put dst (movV true s.next x e)).bump) K := _root_.id rfl
theorem movV_app (nid l l' z off n : Nat) (o : AObj) : movV true nid (.lsl l z off n) (.app l' o) = .lsl nid z off n := _root_.id rfl
theorem movV_no (nid : Nat) (x : AV) : movV true nid x .no = x := _root_.id rfl
theorem movV_new (nid : Nat) (x : AV) (o : AObj) : movV true nid x (.new o) = x := _root_.id rfl
theorem movS_app (t : List AV) (ob : Nat → Option AObj) (n nid l : Nat) (o : AObj) : movS true ⟨t, ob, n⟩ nid (.app l o) = ⟨t, upd (upd ob l none) nid (some o), n⟩ := _root_.id rfl
theorem movS_no (nid : Nat) : movS true s nid .no = s := _root_.id rfl
theorem movS_new (t : List AV) (ob : Nat → Option AObj) (n nid : Nat) (o : AObj) : movS true ⟨t, ob, n⟩ nid (.new o) = ⟨t, upd ob nid (some o), n⟩ := _root_.id rfl
theorem Step_len (t : TypeId) (x : Operand) : Step q P T ops rest dst K s (.call ⟨.builtin .len, #[x], #[t]⟩) = Val q P T ops rest dst K s (alen T s t (s.eval x)) := by
  unfold Step aop
  simp only [aeff, abuiltin, List.map]
  cases h : alen T s t (s.eval x) <;> rfl
theorem Step_max (xs : Array Operand) (ts : Array TypeId) : Step q P T ops rest dst K s (.call ⟨.builtin .max, xs, ts⟩) = Val q P T ops rest dst K s (abuiltin T s .max ts.toList (xs.toList.map s.eval)) := by
  unfold Step aop
  simp only [aeff]
  cases h : abuiltin T s .max ts.toList (xs.toList.map s.eval) <;> rfl
theorem Step_min (xs : Array Operand) (ts : Array TypeId) : Step q P T ops rest dst K s (.call ⟨.builtin .min, xs, ts⟩) = Val q P T ops rest dst K s (abuiltin T s .min ts.toList (xs.toList.map s.eval)) := by
  unfold Step aop
  simp only [aeff]
  cases h : abuiltin T s .min ts.toList (xs.toList.map s.eval) <;> rfl
theorem Step_call (f : Operand) (xs : Array Operand) (ts : Array TypeId) : Step q P T ops rest dst K s (.call ⟨.value f, xs, ts⟩) = Cal q P T ops rest dst K s (xs.toList.map s.eval) (s.eval f) := by
  unfold Step aop
  simp only
  cases h : s.eval f with
  | c y => cases y <;> rfl
  | _ => rfl

theorem vc_skip : vc P T E .skip Q s = Q .normal s := _root_.id rfl
theorem vc_region (id : Nat) : vc P T E (.region id ops false) Q s = arun false P T ops ops.toList s (Q .normal) := _root_.id rfl
theorem vc_draw (id : Nat) : vc P T E (.region id ops true) Q s = AWP P E (.region id ops true) Q s := _root_.id rfl
theorem vc_seq (a b : Code) : vc P T E (.seq a b) Q s = vc P T E a (athen (vc P T E b Q) Q) s := _root_.id rfl
theorem vc_cond (c : Operand) (a b : Code) : vc P T E (.cond c a b) Q s = Cnd P T E a b Q s (s.eval c) := _root_.id rfl
theorem vc_block (id : Nat) (b : Code) : vc P T E (.block id b) Q s = vc P T E b (ainBlock id Q) s := _root_.id rfl
theorem vc_loop (b : Code) : vc P T E (.loop b) Q s = AWP P E (.loop b) Q s := _root_.id rfl
theorem vc_exit (id : Nat) : vc P T E (.exit id) Q s = Q (.exit id) s := _root_.id rfl
theorem vc_ret : vc P T E .ret Q s = Q .ret s := _root_.id rfl

theorem athen_normal (K : AState → Prop) : athen K Q .normal s = K s := _root_.id rfl
theorem athen_ret (K : AState → Prop) : athen K Q .ret s = Q .ret s := _root_.id rfl
theorem athen_exit (K : AState → Prop) (id : Nat) : athen K Q (.exit id) s = Q (.exit id) s := _root_.id rfl
theorem inBlock_normal (id : Nat) : ainBlock id Q .normal s = Q .normal s := _root_.id rfl
theorem inBlock_ret (id : Nat) : ainBlock id Q .ret s = Q .ret s := _root_.id rfl
theorem inBlock_exit (id id' : Nat) : ainBlock id Q (.exit id') s = if id' = id then Q .normal s else Q (.exit id') s := _root_.id rfl

/-! the state's own -/
theorem eval_tmp (t : List AV) (ob : Nat → Option AObj) (n k : Nat) : AState.eval ⟨t, ob, n⟩ (.tmp k) = t.getD k .junk := _root_.id rfl
theorem eval_int (k : IntKind) (n : Int) : s.eval (.const (.int k n)) = .c (.v (.int k n)) := _root_.id rfl
theorem eval_bool (b : Bool) : s.eval (.const (.bool b)) = .c (.v (.bool b)) := _root_.id rfl
theorem eval_str (b : ByteArray) : s.eval (.const (.string b)) = .c (.v (.string b)) := _root_.id rfl
theorem eval_nils : s.eval (.const (.slice none 0 0)) = .c (.sl true true 0 []) := _root_.id rfl
theorem eval_nilp : s.eval (.const (.pointer none)) = .c (.v (.pointer none)) := _root_.id rfl
theorem eval_func (f : FuncId) : s.eval (.func f) = .fn f [] := _root_.id rfl
theorem put_some (t : List AV) (ob : Nat → Option AObj) (n d : Nat) (x : AV) : AState.put ⟨t, ob, n⟩ (some d) x = ⟨t.set d x, ob, n⟩ := _root_.id rfl
theorem put_none (x : AV) : AState.put s none x = s := _root_.id rfl
theorem bump_mk (t : List AV) (ob : Nat → Option AObj) (n : Nat) : AState.bump ⟨t, ob, n⟩ = ⟨t, ob, n + 1⟩ := _root_.id rfl
theorem eff_no (nid : Nat) : s.eff nid .no = s := _root_.id rfl
theorem eff_new (t : List AV) (ob : Nat → Option AObj) (n nid : Nat) (o : AObj) : AState.eff ⟨t, ob, n⟩ nid (.new o) = ⟨t, upd ob nid (some o), n⟩ := _root_.id rfl
theorem eff_put (t : List AV) (ob : Nat → Option AObj) (n nid l : Nat) (o : AObj) : AState.eff ⟨t, ob, n⟩ nid (.put l o) = ⟨t, upd ob l (some o), n⟩ := _root_.id rfl
theorem eff_app (t : List AV) (ob : Nat → Option AObj) (n nid l : Nat) (o : AObj) : AState.eff ⟨t, ob, n⟩ nid (.app l o) = ⟨t.map (AV.kill l), upd (fun k => (ob k).map (AObj.kill l)) l (some o), n⟩ := _root_.id rfl
end
end Go.Proofs.Ytnnpjblpiecfdaa.Fw
